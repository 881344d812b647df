/- The table of needs: the reference's side; conditions: none. -/
import Derived.Test.YtpieaeokbblflaaNeedS
import Derived.Test.YtpieaeokbblflaaRk
import Derived.Test.YtpieaeokbblflaaI64
import Derived.BigRegion
import Derived.BigQuiet
namespace Go.Proofs.Ytpieaeokbblflaa
open Go.RowKit

theorem i64_and_nat (a b : Nat) (ha : a < 4611686018427387904) (hb : b < 4611686018427387904) : bits .and .i64 (a : Int) (b : Int) = ((a &&& b : Nat) : Int) := by
  have hx : a &&& b < 2 ^ 62 := Nat.and_lt_two_pow _ (by omega)
  show IntKind.i64.wrap ((BitVec.ofInt 64 (a : Int) &&& BitVec.ofInt 64 (b : Int)).toNat : Int) = _
  rw [BitVec.toNat_and, ofInt_i64 a ha, ofInt_i64 b hb]
  exact wraps_i64 _ (by omega) (by omega)
theorem c_l1MostN (a b : Int) (w : World) : Calls Try.prog 94 #[.int .i64 a, .int .i64 b] w fun e w' => e = .returned (.int .i64 (max a b)) ∧ w = w' := by
  by_cases h : b < a
  all_goals
    go_enter Try.func94, Try.ntmps94
    go_wp2
    go_ret
    exact ⟨by rw [show max a b = _ by first | exact Int.max_eq_left (by omega) | exact Int.max_eq_right (by omega)]; rfl, rfl⟩
theorem c_l1LeastN (a b : Int) (w : World) : Calls Try.prog 127 #[.int .i64 a, .int .i64 b] w fun e w' => e = .returned (.int .i64 (min a b)) ∧ w = w' := by
  by_cases h : a < b
  all_goals
    go_enter Try.func127, Try.ntmps127
    go_wp2
    go_ret
    exact ⟨by rw [show min a b = _ by first | exact Int.min_eq_left (by omega) | exact Int.min_eq_right (by omega)]; rfl, rfl⟩
theorem shl_oneN (n : Nat) (h : n ≤ 4) : IntKind.i64.wrap ((2 : Int) ^ n) = ((2 ^ n : Nat) : Int) ∧ 2 ^ n ≤ 16 ∧ 1 ≤ 2 ^ n := by
  have : ∀ n : Nat, n < 5 → (IntKind.i64.wrap ((2 : Int) ^ n) = ((2 ^ n : Nat) : Int) ∧ 2 ^ n ≤ 16 ∧ 1 ≤ 2 ^ n) := by decide +kernel
  exact this n (by omega)

def rowN (t : List (List Int)) (R : Nat) : List Int := mapR (fun C => (need t R C : Int)) (2 ^ wid t)
def rowP (t : List (List Int)) (R c : Nat) : List Int := mapR (fun C => if C < c then (need t R C : Int) else 0) (2 ^ wid t)
def tblL (t : List (List Int)) (r c : Nat) : List (List Int) := mapR (rowN t) r ++ [rowP t r c]
/-- the parts that have come so far -/
def subsTo (R p : Nat) : List Nat := (List.range p).filter fun q => decide (0 < q) && (q &&& R == q)
theorem subsTo_yes {R p : Nat} (h0 : 0 < p) (h : p &&& R = p) : subsTo R (p + 1) = subsTo R p ++ [p] := by
  unfold subsTo
  rw [List.range_succ, List.filter_append]
  simp [h0, h]
theorem subsTo_no {R p : Nat} (h : p &&& R ≠ p) : subsTo R (p + 1) = subsTo R p := by
  unfold subsTo
  rw [List.range_succ, List.filter_append]
  simp [h]
theorem subsTo_one (R : Nat) : subsTo R 1 = [] := by simp [subsTo, List.range_succ]
theorem need_zero {t : List (List Int)} {R C : Nat} (h : R = 0 ∨ C = 0) : need t R C = 0 := by
  have hp : plB t R C = true := by
    unfold plB hasP rowH selB bitAt
    rcases h with rfl | rfl <;> simp
  rw [need_eq t R C (fun _ => hp), if_pos hp]
theorem rowP_start (t : List (List Int)) (R : Nat) : List.replicate (2 ^ wid t) (0 : Int) = rowP t R 1 := by
  unfold rowP mapR
  apply List.ext_getElem
  · simp
  · intro i h1 h2
    simp
    intro h
    rw [need_zero (by omega)]
    rfl
theorem rowP_zero (t : List (List Int)) (c : Nat) : rowP t 0 c = rowN t 0 := by
  unfold rowP rowN mapR
  apply List.map_congr_left
  intro C _
  rw [need_zero (.inl rfl)]
  simp
theorem rowP_end (t : List (List Int)) (R : Nat) : rowP t R (2 ^ wid t) = rowN t R := by
  unfold rowP rowN mapR
  apply List.map_congr_left
  intro C hC
  rw [if_pos (List.mem_range.1 hC)]
theorem rowP_set (t : List (List Int)) (R c : Nat) : (rowP t R c).set c (need t R c : Int) = rowP t R (c + 1) := by
  apply List.ext_getElem
  · simp [rowP, mapR]
  · intro i h1 h2
    rw [List.getElem_set]
    simp only [rowP, mapR, List.getElem_map, List.getElem_range]
    by_cases e : c = i
    · subst e; simp
    · rw [if_neg e]
      by_cases e2 : i < c
      · rw [if_pos e2, if_pos (by omega)]
      · rw [if_neg e2, if_neg (by omega)]
theorem rowP_skip (t : List (List Int)) (R c : Nat) (h : need t R c = 0) : rowP t R c = rowP t R (c + 1) := by
  unfold rowP mapR
  apply List.map_congr_left
  intro C _
  by_cases e : C = c
  · subst e; rw [if_neg (by omega), if_pos (by omega), h]; rfl
  · by_cases e2 : C < c
    · rw [if_pos e2, if_pos (by omega)]
    · rw [if_neg e2, if_neg (by omega)]
theorem tbl_len (t : List (List Int)) (r c : Nat) : (tblL t r c).length = r + 1 := by simp [tblL, mapR]
theorem tbl_old (t : List (List Int)) (r c i : Nat) (hi : i < r) (h : i < (tblL t r c).length) : (tblL t r c)[i] = rowN t i := by
  unfold tblL at h ⊢
  rw [List.getElem_append_left (by simp [mapR]; exact hi)]
  simp [mapR]
theorem tbl_new (t : List (List Int)) (r c : Nat) (h : r < (tblL t r c).length) : (tblL t r c)[r] = rowP t r c := by
  unfold tblL at h ⊢
  rw [List.getElem_append_right (by simp [mapR])]
  simp [mapR]
theorem tbl_set (t : List (List Int)) (r c : Nat) (ys : List Int) : (tblL t r c).set r ys = mapR (rowN t) r ++ [ys] := by
  unfold tblL
  rw [List.set_append_right _ _ (by simp [mapR])]
  simp [mapR]
theorem tbl_end (t : List (List Int)) (r c : Nat) (h : rowP t r c = rowN t r) : tblL t r c = mapR (rowN t) (r + 1) := by
  unfold tblL
  rw [h, mapR_succ]


set_option maxRecDepth 100000 in
set_option maxHeartbeats 2000000 in
theorem c_l8Needs (v : Value) (t : List (List Int)) (w : World) (h : Rows2 w v t) (ht : taskB t = true) :
    Calls Try.prog 67 #[v] w fun e w' => ∃ v', e = .returned v' ∧ OwnR w' w.heap.size (fun k => w.heap.size ≤ k ∧ k < w'.heap.size) v' (mapR (rowN t) (2 ^ t.length)) ∧ Below w.heap.size w w' := by
  obtain ⟨ad, cap, rfl, hl⟩ := h.out
  obtain ⟨hn, hm, hrow, h01⟩ := taskB_yes ht
  obtain ⟨bl0, off0, a0, c0, rfl, hb0, hcell0, hi0⟩ := h.at0 (by omega)
  obtain ⟨e1, u1, u2⟩ := shl_oneN t.length hn.2
  obtain ⟨e2, m1, m2⟩ := shl_oneN (wid t) hm.2
  obtain ⟨U, hU⟩ : ∃ z, z = 2 ^ t.length := ⟨_, rfl⟩
  obtain ⟨M, hM⟩ : ∃ z, z = 2 ^ wid t := ⟨_, rfl⟩
  rw [← hU] at e1 u1 u2 ⊢
  rw [← hM] at e2 m1 m2
  clear hi0 h01
  replace hrow := Lib.hid hrow
  replace hU := Lib.hid hU
  replace hM := Lib.hid hM
  replace ht := Lib.hid ht
  go_enter Try.func67, Try.ntmps67
  go_wp2_with fail
  go_quiet (fail)
  generalize hwd : World.drewN _ _ = wd
  have hD := fun q => below_drewN (Below.refl w.heap.size w) q
  replace hD : Below w.heap.size w wd := hwd ▸ hD _
  clear hwd hcell0
  have hsd := hD.size
  go_wp2_with fail
  go_loopw [5, 6] (fun v i wr => ∃ r : Nat, r ≤ U ∧ i = .int .i64 r ∧ OwnR wr w.heap.size (fun k => w.heap.size ≤ k ∧ k < wr.heap.size) v (mapR (rowN t) r) ∧ Below w.heap.size w wr) (fun _ i _ => U - (intOf i).toNat)
  case atStart => exact ⟨0, Nat.zero_le _, rfl, ownR_empty wd w.heap.size hsd, hD.alloc hsd _⟩
  case round =>
    clear hD hsd
    obtain ⟨r, hr, rfl, hown, hB⟩ := hrel
    have hsz := hB.size
    by_cases hlr : r < U
    · have hdr : decide ((r : Int) < (U : Int)) = true := by simp; omega
      obtain ⟨wo, rfl⟩ : ∃ wo : World, wo = wr := ⟨_, rfl⟩
      have hrp : Hid (List.replicate M (0 : Int) = rowP t r 1) := Lib.hid (by rw [hM.out]; exact rowP_start t r)
      go_wp2_with (first | (at_make; refine wp_make_int _ rfl _ _ rfl M rfl rfl (by omega) ?_; intro w1 hm1 hb1 hl1; rw [hrp.out] at hm1; have hown1 := hown.below hb1; have hs1 := hb1.size) | (at_builtin; refine wp_append_row _ _ rfl _ _ rfl w.heap.size _ _ _ rfl hown1 (rowP t r 1) (hm1.mono hsz) (fun g hg hf => by have a := OwnS.lt hm1 g hg; have b := hf.2; omega) rfl (by first | rfl | simp) (by rw [mapR_len]; omega) (by omega) ?_; intro v' w2 hown2 hg2 hB2 hne2))
      have hB3 := (bstep hB hb1).trans hB2
      obtain ⟨ao, oc, e6, -⟩ := hown2.rows.out
      rw [show (mapR (rowN t) r ++ [rowP t r 1]).length = r + 1 from tbl_len t r 1] at e6
      subst e6
      replace hown2 : OwnR w2 w.heap.size (fun k => w.heap.size ≤ k ∧ k < w2.heap.size) (.slice ao (r + 1) oc) (tblL t r 1) := hown2
      clear hown1 hm1 hb1 hB2 hg2 hne2 hB hown
      go_wp2_with fail
      go_loopw [7] (fun i wr => ∃ c : Nat, 1 ≤ c ∧ c ≤ M ∧ i = .int .i64 c ∧ OwnR wr w.heap.size (fun k => w.heap.size ≤ k ∧ k < wr.heap.size) (.slice ao (r + 1) oc) (tblL t r c) ∧ Below w.heap.size w wr) (fun i _ => M - (intOf i).toNat)
      case atStart => exact ⟨1, by omega, by omega, rfl, hown2, hB3⟩
      case round =>
        clear hown2 hB3
        obtain ⟨c, hc1, hc2, rfl, hown, hB⟩ := hrel
        have hsz := hB.size
        by_cases hlc : c < M
        · have hdc : decide ((c : Int) < (M : Int)) = true := by simp; omega
          by_cases hr0 : r = 0
          · subst hr0
            have hend : Hid (tblL t 0 c = mapR (rowN t) (0 + 1)) := Lib.hid (tbl_end t 0 c (rowP_zero t c))
            go_wp2
            go_roundw
            case rel => first | exact ⟨0 + 1, by omega, by go_num, by rw [← hend.out]; exact hown, hB⟩ | ((repeat apply Exists.intro); exact ⟨⟨0 + 1, by omega, rfl, by rw [← hend.out]; exact hown, hB⟩, rfl⟩)
            case measure => simp [intOf]; omega
          · have hdr0 : decide ((0 : Int) < (r : Int)) = true := by simp; omega
            have hrU : r < 2 ^ t.length := by rw [← hU.out]; exact hlr
            have hcM : c < 2 ^ wid t := by rw [← hM.out]; exact hlc
            have hpl := plain_members ht.out hrU hcM (by omega) (by omega)
            have hp1 := memL_pos hn.2 hrU (by omega)
            have hp2 := memL_pos hm.2 hcM (by omega)
            replace hpl := Lib.hid hpl
            replace hrU := Lib.hid hrU
            replace hcM := Lib.hid hcM
            go_wp2_with fail
            refine (c_l8Members t.length r _ hn.2 (by omega)).mono ?_
            rintro e x1 ⟨vr, rfl, hvr, hx1⟩
            go_wp2_with fail
            refine (c_l8Members (wid t) c _ hm.2 (by omega)).mono ?_
            rintro e x2 ⟨vc, rfl, hvc, hx2⟩
            have hx12 := bstep hx1 hx2
            have hvr2 := hvr.below hx2
            go_wp2_with fail
            refine (c_l8PlainB _ _ _ t (memL r t.length) (memL c (wid t)) _ (h.below (bstep hB hx12)) hvr2.ints hvc.ints ht.out (memL_mem r _) (memL_mem c _) hp1 hp2).mono ?_
            rintro e x3 ⟨rfl, hx3⟩
            have hBx := bstep hB (bstep hx12 hx3)
            have hownx := (hown.below (bstep hx12 hx3)).isIn
            clear hvr hvc hvr2 hx1 hx2 hx12 hx3 hp1 hp2 hown hB
            obtain ⟨pn, hpn⟩ : ∃ z, z = plainN t (memL r t.length) (memL c (wid t)) := ⟨_, rfl⟩
            rw [← hpn] at hpl ⊢
            clear hpn
            cases hp : plB t r c
            · have hd0 : decide (0 ≤ pn) = false := by rw [hpl.out, hp]
              have hne := need_eq t r c (fun e => by omega)
              rw [if_neg (by rw [hp]; simp)] at hne
              replace hne := Lib.hid hne
              replace hp := Lib.hid hp
              have hsx := hBx.size
              go_wp2_with fail
              go_loopw [8, 9] (fun b i wr => ∃ p : Nat, 1 ≤ p ∧ p ≤ r ∧ i = .int .i64 p ∧ b = .int .i64 (minL 8 ((subsTo r p).map fun q => 1 + max (need t q c) (need t (r - q) c)) : Nat) ∧ Below x3.heap.size x3 wr) (fun _ i _ => r - (intOf i).toNat)
              case atStart => exact ⟨1, by omega, by omega, rfl, by rw [subsTo_one]; rfl, Below.refl _ _⟩
              case round =>
                obtain ⟨p, hp1, hp2, rfl, rfl, hBw⟩ := hrel
                by_cases hlp : p < r
                · have hdp : decide ((p : Int) < (r : Int)) = true := by simp; omega
                  have hE := i64_and_nat p r (by omega) (by omega)
                  obtain ⟨z, hz⟩ : ∃ q, q = p &&& r := ⟨_, rfl⟩
                  rw [← hz] at hE
                  cases hzp : ((z : Int) == (p : Int))
                  · have hs : Hid (subsTo r (p + 1) = subsTo r p) := Lib.hid (subsTo_no (by rw [← hz]; have := beq_eq_false_iff_ne.1 hzp; omega))
                    clear hz
                    go_wp2
                    go_roundw
                    case rel => first | exact ⟨p + 1, by omega, by omega, by go_num, by rw [hs.out], hBw⟩ | ((repeat apply Exists.intro); exact ⟨⟨p + 1, by omega, by omega, rfl, by rw [hs.out], hBw⟩, rfl⟩)
                    case measure => simp [intOf]; omega
                  · have hs : subsTo r (p + 1) = subsTo r p ++ [p] := subsTo_yes (by omega) (by rw [← hz]; have := eq_of_beq hzp; omega)
                    obtain ⟨n1, hn1⟩ : ∃ q, q = need t p c := ⟨_, rfl⟩
                    obtain ⟨n2, hn2⟩ : ∃ q, q = need t (r - p) c := ⟨_, rfl⟩
                    have b1 : n1 ≤ 8 := hn1 ▸ need_le t p c
                    have b2 : n2 ≤ 8 := hn2 ▸ need_le t (r - p) c
                    obtain ⟨bst, hbst⟩ : ∃ q, q = minL 8 ((subsTo r p).map fun q => 1 + max (need t q c) (need t (r - q) c)) := ⟨_, rfl⟩
                    have hHN : Hid (min (bst : Int) (1 + max (n1 : Int) (n2 : Int)) = ((minL 8 ((subsTo r (p + 1)).map fun q => 1 + max (need t q c) (need t (r - q) c)) : Nat) : Int)) := Lib.hid (by
                      rw [hs, List.map_append, List.map_cons, List.map_nil, minL_snoc, ← hbst, ← hn1, ← hn2]
                      omega)
                    rw [← hbst]
                    have hrw := (hownx.below hBw).rows
                    obtain ⟨ob, oo, rv1, rc1, rfl, hob, d1, hi1⟩ := hrw.at p (by rw [tbl_len]; omega)
                    rw [tbl_old t r c p hlp] at d1 hi1
                    obtain ⟨ob', oo', rv2, rc2, e, hob', d2, hi2⟩ := hrw.at (r - p) (by rw [tbl_len]; omega)
                    simp only [Option.some.injEq, Addr.mk.injEq, and_true] at e
                    obtain ⟨rfl, rfl⟩ := e
                    rw [tbl_old t r c (r - p) (by omega)] at d2 hi2
                    rw [show (rowN t p).length = M by rw [hM.out]; exact mapR_len _ _] at d1 hi1
                    rw [show (rowN t (r - p)).length = M by rw [hM.out]; exact mapR_len _ _] at d2 hi2
                    obtain ⟨xb, xo, rfl, hxb, d3⟩ := hi1.at c (by rw [show (rowN t p).length = M by rw [hM.out]; exact mapR_len _ _]; exact hlc)
                    obtain ⟨zb, zo, rfl, hzb, d4⟩ := hi2.at c (by rw [show (rowN t (r - p)).length = M by rw [hM.out]; exact mapR_len _ _]; exact hlc)
                    rw [show (rowN t p)[c]'(by rw [show (rowN t p).length = M by rw [hM.out]; exact mapR_len _ _]; exact hlc) = (n1 : Int) by rw [hn1]; simp [rowN, mapR]] at d3
                    rw [show (rowN t (r - p))[c]'(by rw [show (rowN t (r - p)).length = M by rw [hM.out]; exact mapR_len _ _]; exact hlc) = (n2 : Int) by rw [hn2]; simp [rowN, mapR]] at d4
                    have hallw := bstep hBx hBw
                    have hszw := hallw.size
                    have hdq : decide ((r : Int) - (p : Int) < (r : Int) + 1) = true := by simp; omega
                    have hzp2 := Lib.hid hzp
                    replace hn1 := Lib.hid hn1
                    replace hn2 := Lib.hid hn2
                    replace hbst := Lib.hid hbst
                    clear hs hz hi1 hi2 hrw
                    go_wp2_with fail
                    clear hE hzp
                    refine wp_region_rkt (by kernel_rfl) [none, none, none, none, none, none, none, none, some 20, none, none, none, none, none, none, none, none, none, none, none, none, none, none, none, none, none, none, none, none, none, none, none, none, none, none, none, none, none, none, none, none, none, none, none, none, none, none, none, none, none, none, none, none, none, none, none, none, none, none, some 0, some 1, some 2, some 3, some 4, some 5, some 6, some 7, some 8, some 9, some 10, some 11, some 12, some 13, some 14, some 15, some 16, some 17, some 18, some 19] 19 20 (by kernel_rfl) (by kernel_rfl) (by kernel_rfl) _ _ rfl rfl 8 rfl w.heap.size [rkV (.int .i64 (bst : Int)), rkV (.slice (some ⟨ob, oo, none⟩) (r + 1) oc), rkV (.int .i64 (p : Int)), rkV (.pointer (some ⟨ob, oo + p, none⟩)), rkV (.slice (some ⟨xb, xo, none⟩) M rc1), rkV (.int .i64 (c : Int)), rkV (.pointer (some ⟨xb, xo + c, none⟩)), rkV (.int .i64 (n1 : Int)), rkV (.slice (some ⟨ob, oo, none⟩) (r + 1) oc), rkV (.int .i64 (r : Int)), rkV (.int .i64 (p : Int)), rkV (.int .i64 ((r : Int) - (p : Int))), rkV (.pointer (some ⟨ob, oo + (r - p), none⟩)), rkV (.slice (some ⟨zb, zo, none⟩) M rc2), rkV (.int .i64 (c : Int)), rkV (.pointer (some ⟨zb, zo + c, none⟩)), rkV (.int .i64 (n2 : Int)), rkV (.int .i64 (max (n1 : Int) (n2 : Int))), rkV (.int .i64 (1 + max (n1 : Int) (n2 : Int)))] _ rfl (by kernel_rfl) (by simp) ?_ ?_
                    · intro i o ho hi hi2 u g ww hbw hu2 hd
                      replace hu2 : u 20 = .int .i64 (bst : Int) := hu2
                      have hall : Below w.heap.size w ww := hallw.trans (hbw.mono (by omega))
                      have hlow : w.heap.size ≤ ww.heap.size := hall.size
                      obtain ⟨hcl, hfr⟩ := bcell hbw
                      have y_d1 := (hcl _ _ (by omega)).trans d1
                      have y_d2 := (hcl _ _ (by omega)).trans d2
                      have y_d3 := (hcl _ _ (by omega)).trans d3
                      have y_d4 := (hcl _ _ (by omega)).trans d4
                      clear hcl hfr
                      rcases i with _ | _ | _ | _ | _ | _ | _ | _ | _ | _ | _ | _ | _ | _ | _ | _ | _ | _ | _ | _ | _ | i
                      all_goals try obtain rfl := Option.some.inj ho
                      all_goals try simp only [putAll, fillL]
                      · rw [hu2]
                        go_wp2
                        exact ⟨_, by simp only [putAll, fillL, hu2] <;> rfl, kept0 (Below.refl _ _), rfl⟩
                      · go_wp2
                        exact ⟨_, by simp only [putAll, fillL, hu2] <;> rfl, kept0 (Below.refl _ _), rfl⟩
                      · go_wp2
                        exact ⟨_, by simp only [putAll, fillL, hu2] <;> rfl, kept0 (Below.refl _ _), rfl⟩
                      · have e1 : u 1 = .slice (some ⟨ob, oo, none⟩) (r + 1) oc := hd 1 (by decide)
                        rw [e1]
                        have e2 : u 2 = .int .i64 (p : Int) := hd 2 (by decide)
                        rw [e2]
                        go_wp2
                        exact ⟨_, by simp only [putAll, fillL, hu2, e1, e2] <;> rfl, kept0 (Below.refl _ _), rfl⟩
                      · have e3 : u 3 = .pointer (some ⟨ob, oo + p, none⟩) := hd 3 (by decide)
                        rw [e3]
                        go_wp2
                        exact ⟨_, by simp only [putAll, fillL, hu2, e3] <;> rfl, kept0 (Below.refl _ _), rfl⟩
                      · go_wp2
                        exact ⟨_, by simp only [putAll, fillL, hu2] <;> rfl, kept0 (Below.refl _ _), rfl⟩
                      · have e4 : u 4 = .slice (some ⟨xb, xo, none⟩) M rc1 := hd 4 (by decide)
                        rw [e4]
                        have e5 : u 5 = .int .i64 (c : Int) := hd 5 (by decide)
                        rw [e5]
                        go_wp2
                        exact ⟨_, by simp only [putAll, fillL, hu2, e4, e5] <;> rfl, kept0 (Below.refl _ _), rfl⟩
                      · have e6 : u 6 = .pointer (some ⟨xb, xo + c, none⟩) := hd 6 (by decide)
                        rw [e6]
                        go_wp2
                        exact ⟨_, by simp only [putAll, fillL, hu2, e6] <;> rfl, kept0 (Below.refl _ _), rfl⟩
                      · go_wp2
                        exact ⟨_, by simp only [putAll, fillL, hu2] <;> rfl, kept0 (Below.refl _ _), rfl⟩
                      · go_wp2
                        exact ⟨_, by simp only [putAll, fillL, hu2] <;> rfl, kept0 (Below.refl _ _), rfl⟩
                      · go_wp2
                        exact ⟨_, by simp only [putAll, fillL, hu2] <;> rfl, kept0 (Below.refl _ _), rfl⟩
                      · have e9 : u 9 = .int .i64 (r : Int) := hd 9 (by decide)
                        rw [e9]
                        have e10 : u 10 = .int .i64 (p : Int) := hd 10 (by decide)
                        rw [e10]
                        go_wp2
                        exact ⟨_, by simp only [putAll, fillL, hu2, e9, e10] <;> rfl, kept0 (Below.refl _ _), rfl⟩
                      · have e8 : u 8 = .slice (some ⟨ob, oo, none⟩) (r + 1) oc := hd 8 (by decide)
                        rw [e8]
                        have e11 : u 11 = .int .i64 ((r : Int) - (p : Int)) := hd 11 (by decide)
                        rw [e11]
                        go_wp2
                        exact ⟨_, by simp only [putAll, fillL, hu2, e8, e11] <;> rfl, kept0 (Below.refl _ _), rfl⟩
                      · have e12 : u 12 = .pointer (some ⟨ob, oo + (r - p), none⟩) := hd 12 (by decide)
                        rw [e12]
                        go_wp2
                        exact ⟨_, by simp only [putAll, fillL, hu2, e12] <;> rfl, kept0 (Below.refl _ _), rfl⟩
                      · go_wp2
                        exact ⟨_, by simp only [putAll, fillL, hu2] <;> rfl, kept0 (Below.refl _ _), rfl⟩
                      · have e13 : u 13 = .slice (some ⟨zb, zo, none⟩) M rc2 := hd 13 (by decide)
                        rw [e13]
                        have e14 : u 14 = .int .i64 (c : Int) := hd 14 (by decide)
                        rw [e14]
                        go_wp2
                        exact ⟨_, by simp only [putAll, fillL, hu2, e13, e14] <;> rfl, kept0 (Below.refl _ _), rfl⟩
                      · have e15 : u 15 = .pointer (some ⟨zb, zo + c, none⟩) := hd 15 (by decide)
                        rw [e15]
                        go_wp2
                        exact ⟨_, by simp only [putAll, fillL, hu2, e15] <;> rfl, kept0 (Below.refl _ _), rfl⟩
                      · have e7 : u 7 = .int .i64 (n1 : Int) := hd 7 (by decide)
                        rw [e7]
                        have e16 : u 16 = .int .i64 (n2 : Int) := hd 16 (by decide)
                        rw [e16]
                        go_wp2_with fail
                        refine (c_l1MostN _ _ _).mono ?_
                        rintro e _ ⟨rfl, rfl⟩
                        go_wp2
                        exact ⟨_, by simp only [putAll, fillL, hu2, e7, e16] <;> rfl, kept0 (Below.refl _ _), rfl⟩
                      · have e17 : u 17 = .int .i64 (max (n1 : Int) (n2 : Int)) := hd 17 (by decide)
                        rw [e17]
                        go_wp2
                        exact ⟨_, by simp only [putAll, fillL, hu2, e17] <;> rfl, kept0 (Below.refl _ _), rfl⟩
                      · exact absurd rfl hi
                      · exact absurd rfl hi2
                      · simp at ho
                    · intro uu gg w5 hbw hu2 hR hAp
                      have e0 : uu 0 = .int .i64 (bst : Int) := hR 0 (by decide) (by decide) (by decide)
                      have e18 : uu 18 = .int .i64 (1 + max (n1 : Int) (n2 : Int)) := hR 18 (by decide) (by decide) (by decide)
                      replace hu2 : uu 20 = .int .i64 (bst : Int) := hu2
                      have hB5 := bstep hBw hbw
                      clear hR hAp hbw hBw hallw hszw d1 d2 d3 d4
                      simp only [putAll, fillL]
                      rw [hu2, e0, e18]
                      clear hu2 e0 e18
                      go_wp2_with fail
                      refine (c_l1LeastN _ _ _).mono ?_
                      rintro e _ ⟨rfl, rfl⟩
                      rw [hHN.out]
                      go_wp2
                      go_roundw
                      case rel => first | exact ⟨p + 1, by omega, by omega, by go_num, rfl, hB5⟩ | ((repeat apply Exists.intro); exact ⟨⟨p + 1, by omega, by omega, rfl, rfl, hB5⟩, rfl⟩)
                      case measure => simp [intOf]; omega
                · obtain rfl : r = p := by omega
                  have hX : Hid (subsTo r r = subs r) := Lib.hid rfl
                  rw [hX.out]
                  obtain ⟨X, hXd⟩ : ∃ q, q = minL 8 ((subs r).map fun q => 1 + max (need t q c) (need t (r - q) c)) := ⟨_, rfl⟩
                  rw [← hXd]
                  replace hXd := Lib.hid hXd
                  have hBy := bstep hBx hBw
                  have howny := (hownx.below hBw).isIn
                  obtain ⟨x4, hx4⟩ : ∃ x4 : World, x4 = wr := ⟨_, rfl⟩
                  rw [← hx4] at hBy howny
                  have hBz : Below x4.heap.size x4 wr := by rw [hx4]; exact Below.refl _ _
                  replace hx4 := Lib.hid hx4
                  clear hBw hX
                  go_wp2_with fail
                  go_loopw [8, 10] (fun b i wr => ∃ p : Nat, 1 ≤ p ∧ p ≤ c ∧ i = .int .i64 p ∧ b = .int .i64 (minL X ((subsTo c p).map fun q => 1 + max (need t r q) (need t r (c - q))) : Nat) ∧ Below x4.heap.size x4 wr) (fun _ i _ => c - (intOf i).toNat)
                  case atStart => exact ⟨1, by omega, by omega, rfl, by rw [subsTo_one]; rfl, hBz⟩
                  case round =>
                    clear hBz
                    obtain ⟨p, hp1, hp2, rfl, rfl, hBw⟩ := hrel
                    by_cases hlp : p < c
                    · have hdp : decide ((p : Int) < (c : Int)) = true := by simp; omega
                      have hE := i64_and_nat p c (by omega) (by omega)
                      obtain ⟨z, hz⟩ : ∃ q, q = p &&& c := ⟨_, rfl⟩
                      rw [← hz] at hE
                      cases hzp : ((z : Int) == (p : Int))
                      · have hs : Hid (subsTo c (p + 1) = subsTo c p) := Lib.hid (subsTo_no (by rw [← hz]; have := beq_eq_false_iff_ne.1 hzp; omega))
                        clear hz
                        go_wp2
                        go_roundw
                        case rel => first | exact ⟨p + 1, by omega, by omega, by go_num, by rw [hs.out], hBw⟩ | ((repeat apply Exists.intro); exact ⟨⟨p + 1, by omega, by omega, rfl, by rw [hs.out], hBw⟩, rfl⟩)
                        case measure => simp [intOf]; omega
                      · have hs : subsTo c (p + 1) = subsTo c p ++ [p] := subsTo_yes (by omega) (by rw [← hz]; have := eq_of_beq hzp; omega)
                        obtain ⟨n1, hn1⟩ : ∃ q, q = need t r p := ⟨_, rfl⟩
                        obtain ⟨n2, hn2⟩ : ∃ q, q = need t r (c - p) := ⟨_, rfl⟩
                        have b1 : n1 ≤ 8 := hn1 ▸ need_le t r p
                        have b2 : n2 ≤ 8 := hn2 ▸ need_le t r (c - p)
                        obtain ⟨bst, hbst⟩ : ∃ q, q = minL X ((subsTo c p).map fun q => 1 + max (need t r q) (need t r (c - q))) := ⟨_, rfl⟩
                        have hHN : Hid (min (bst : Int) (1 + max (n1 : Int) (n2 : Int)) = ((minL X ((subsTo c (p + 1)).map fun q => 1 + max (need t r q) (need t r (c - q))) : Nat) : Int)) := Lib.hid (by
                          rw [hs, List.map_append, List.map_cons, List.map_nil, minL_snoc, ← hbst, ← hn1, ← hn2]
                          omega)
                        rw [← hbst]
                        have hrw := (howny.below hBw).rows
                        obtain ⟨ob, oo, rv1, rc1, rfl, hob, d1, hi1⟩ := hrw.at r (by rw [tbl_len]; omega)
                        have hPl : (rowP t r c).length = M := by rw [hM.out]; exact mapR_len _ _
                        rw [tbl_new t r c, hPl] at d1
                        rw [tbl_new t r c] at hi1
                        rw [hPl] at hi1
                        obtain ⟨xb, xo, rfl, hxb, d3⟩ := hi1.at p (by omega)
                        obtain ⟨xb', xo', e, hzb, d4⟩ := hi1.at (c - p) (by omega)
                        simp only [Option.some.injEq, Addr.mk.injEq, and_true] at e
                        obtain ⟨rfl, rfl⟩ := e
                        rw [show (rowP t r c)[p]'(by omega) = (n1 : Int) by rw [hn1]; simp [rowP, mapR, hlp]] at d3
                        rw [show (rowP t r c)[c - p]'(by omega) = (n2 : Int) by rw [hn2]; simp only [rowP, mapR, List.getElem_map, List.getElem_range]; rw [if_pos (by omega)]] at d4
                        have hallw := bstep hBy hBw
                        have hszw := hallw.size
                        replace hn1 := Lib.hid hn1
                        replace hn2 := Lib.hid hn2
                        replace hbst := Lib.hid hbst
                        clear hs hz hi1 hrw hPl
                        go_wp2_with fail
                        clear hE hzp
                        refine wp_region_rkt (by kernel_rfl) [none, none, none, none, none, none, none, none, some 20, none, none, none, none, none, none, none, none, none, none, none, none, none, none, none, none, none, none, none, none, none, none, none, none, none, none, none, none, none, none, none, none, none, none, none, none, none, none, none, none, none, none, none, none, none, none, none, none, none, none, none, none, none, none, none, none, none, none, none, none, none, none, none, none, none, none, none, none, none, none, none, none, none, none, none, none, none, none, none, none, some 0, some 1, some 2, some 3, some 4, some 5, some 6, some 7, some 8, some 9, some 10, some 11, some 12, some 13, some 14, some 15, some 16, some 17, some 18, some 19] 19 20 (by kernel_rfl) (by kernel_rfl) (by kernel_rfl) _ _ rfl rfl 8 rfl w.heap.size [rkV (.int .i64 (bst : Int)), rkV (.slice (some ⟨ob, oo, none⟩) (r + 1) oc), rkV (.int .i64 (r : Int)), rkV (.pointer (some ⟨ob, oo + r, none⟩)), rkV (.slice (some ⟨xb, xo, none⟩) M rc1), rkV (.int .i64 (p : Int)), rkV (.pointer (some ⟨xb, xo + p, none⟩)), rkV (.int .i64 (n1 : Int)), rkV (.slice (some ⟨ob, oo, none⟩) (r + 1) oc), rkV (.int .i64 (r : Int)), rkV (.pointer (some ⟨ob, oo + r, none⟩)), rkV (.slice (some ⟨xb, xo, none⟩) M rc1), rkV (.int .i64 (c : Int)), rkV (.int .i64 (p : Int)), rkV (.int .i64 ((c : Int) - (p : Int))), rkV (.pointer (some ⟨xb, xo + (c - p), none⟩)), rkV (.int .i64 (n2 : Int)), rkV (.int .i64 (max (n1 : Int) (n2 : Int))), rkV (.int .i64 (1 + max (n1 : Int) (n2 : Int)))] _ rfl (by kernel_rfl) (by simp) ?_ ?_
                        · intro i o ho hi hi2 u g ww hbw hu2 hd
                          replace hu2 : u 20 = .int .i64 (bst : Int) := hu2
                          have hall : Below w.heap.size w ww := hallw.trans (hbw.mono (by omega))
                          have hlow : w.heap.size ≤ ww.heap.size := hall.size
                          obtain ⟨hcl, hfr⟩ := bcell hbw
                          have y_d1 := (hcl _ _ (by omega)).trans d1
                          have y_d3 := (hcl _ _ (by omega)).trans d3
                          have y_d4 := (hcl _ _ (by omega)).trans d4
                          clear hcl hfr
                          rcases i with _ | _ | _ | _ | _ | _ | _ | _ | _ | _ | _ | _ | _ | _ | _ | _ | _ | _ | _ | _ | _ | i
                          all_goals try obtain rfl := Option.some.inj ho
                          all_goals try simp only [putAll, fillL]
                          · rw [hu2]
                            go_wp2
                            exact ⟨_, by simp only [putAll, fillL, hu2] <;> rfl, kept0 (Below.refl _ _), rfl⟩
                          · go_wp2
                            exact ⟨_, by simp only [putAll, fillL, hu2] <;> rfl, kept0 (Below.refl _ _), rfl⟩
                          · go_wp2
                            exact ⟨_, by simp only [putAll, fillL, hu2] <;> rfl, kept0 (Below.refl _ _), rfl⟩
                          · have e1 : u 1 = .slice (some ⟨ob, oo, none⟩) (r + 1) oc := hd 1 (by decide)
                            rw [e1]
                            have e2 : u 2 = .int .i64 (r : Int) := hd 2 (by decide)
                            rw [e2]
                            go_wp2
                            exact ⟨_, by simp only [putAll, fillL, hu2, e1, e2] <;> rfl, kept0 (Below.refl _ _), rfl⟩
                          · have e3 : u 3 = .pointer (some ⟨ob, oo + r, none⟩) := hd 3 (by decide)
                            rw [e3]
                            go_wp2
                            exact ⟨_, by simp only [putAll, fillL, hu2, e3] <;> rfl, kept0 (Below.refl _ _), rfl⟩
                          · go_wp2
                            exact ⟨_, by simp only [putAll, fillL, hu2] <;> rfl, kept0 (Below.refl _ _), rfl⟩
                          · have e4 : u 4 = .slice (some ⟨xb, xo, none⟩) M rc1 := hd 4 (by decide)
                            rw [e4]
                            have e5 : u 5 = .int .i64 (p : Int) := hd 5 (by decide)
                            rw [e5]
                            go_wp2
                            exact ⟨_, by simp only [putAll, fillL, hu2, e4, e5] <;> rfl, kept0 (Below.refl _ _), rfl⟩
                          · have e6 : u 6 = .pointer (some ⟨xb, xo + p, none⟩) := hd 6 (by decide)
                            rw [e6]
                            go_wp2
                            exact ⟨_, by simp only [putAll, fillL, hu2, e6] <;> rfl, kept0 (Below.refl _ _), rfl⟩
                          · go_wp2
                            exact ⟨_, by simp only [putAll, fillL, hu2] <;> rfl, kept0 (Below.refl _ _), rfl⟩
                          · go_wp2
                            exact ⟨_, by simp only [putAll, fillL, hu2] <;> rfl, kept0 (Below.refl _ _), rfl⟩
                          · have e8 : u 8 = .slice (some ⟨ob, oo, none⟩) (r + 1) oc := hd 8 (by decide)
                            rw [e8]
                            have e9 : u 9 = .int .i64 (r : Int) := hd 9 (by decide)
                            rw [e9]
                            go_wp2
                            exact ⟨_, by simp only [putAll, fillL, hu2, e8, e9] <;> rfl, kept0 (Below.refl _ _), rfl⟩
                          · have e10 : u 10 = .pointer (some ⟨ob, oo + r, none⟩) := hd 10 (by decide)
                            rw [e10]
                            go_wp2
                            exact ⟨_, by simp only [putAll, fillL, hu2, e10] <;> rfl, kept0 (Below.refl _ _), rfl⟩
                          · go_wp2
                            exact ⟨_, by simp only [putAll, fillL, hu2] <;> rfl, kept0 (Below.refl _ _), rfl⟩
                          · go_wp2
                            exact ⟨_, by simp only [putAll, fillL, hu2] <;> rfl, kept0 (Below.refl _ _), rfl⟩
                          · have e12 : u 12 = .int .i64 (c : Int) := hd 12 (by decide)
                            rw [e12]
                            have e13 : u 13 = .int .i64 (p : Int) := hd 13 (by decide)
                            rw [e13]
                            go_wp2
                            exact ⟨_, by simp only [putAll, fillL, hu2, e12, e13] <;> rfl, kept0 (Below.refl _ _), rfl⟩
                          · have e11 : u 11 = .slice (some ⟨xb, xo, none⟩) M rc1 := hd 11 (by decide)
                            rw [e11]
                            have e14 : u 14 = .int .i64 ((c : Int) - (p : Int)) := hd 14 (by decide)
                            rw [e14]
                            go_wp2
                            exact ⟨_, by simp only [putAll, fillL, hu2, e11, e14] <;> rfl, kept0 (Below.refl _ _), rfl⟩
                          · have e15 : u 15 = .pointer (some ⟨xb, xo + (c - p), none⟩) := hd 15 (by decide)
                            rw [e15]
                            go_wp2
                            exact ⟨_, by simp only [putAll, fillL, hu2, e15] <;> rfl, kept0 (Below.refl _ _), rfl⟩
                          · have e7 : u 7 = .int .i64 (n1 : Int) := hd 7 (by decide)
                            rw [e7]
                            have e16 : u 16 = .int .i64 (n2 : Int) := hd 16 (by decide)
                            rw [e16]
                            go_wp2_with fail
                            refine (c_l1MostN _ _ _).mono ?_
                            rintro e _ ⟨rfl, rfl⟩
                            go_wp2
                            exact ⟨_, by simp only [putAll, fillL, hu2, e7, e16] <;> rfl, kept0 (Below.refl _ _), rfl⟩
                          · have e17 : u 17 = .int .i64 (max (n1 : Int) (n2 : Int)) := hd 17 (by decide)
                            rw [e17]
                            go_wp2
                            exact ⟨_, by simp only [putAll, fillL, hu2, e17] <;> rfl, kept0 (Below.refl _ _), rfl⟩
                          · exact absurd rfl hi
                          · exact absurd rfl hi2
                          · simp at ho
                        · intro uu gg w5 hbw hu2 hR hAp
                          have e0 : uu 0 = .int .i64 (bst : Int) := hR 0 (by decide) (by decide) (by decide)
                          have e18 : uu 18 = .int .i64 (1 + max (n1 : Int) (n2 : Int)) := hR 18 (by decide) (by decide) (by decide)
                          replace hu2 : uu 20 = .int .i64 (bst : Int) := hu2
                          have hB5 := bstep hBw hbw
                          clear hR hAp hbw hBw hallw hszw d1 d3 d4
                          simp only [putAll, fillL]
                          rw [hu2, e0, e18]
                          clear hu2 e0 e18
                          go_wp2_with fail
                          refine (c_l1LeastN _ _ _).mono ?_
                          rintro e _ ⟨rfl, rfl⟩
                          rw [hHN.out]
                          go_wp2
                          go_roundw
                          case rel => first | exact ⟨p + 1, by omega, by omega, by go_num, rfl, hB5⟩ | ((repeat apply Exists.intro); exact ⟨⟨p + 1, by omega, by omega, rfl, rfl, hB5⟩, rfl⟩)
                          case measure => simp [intOf]; omega
                    · obtain rfl : c = p := by omega
                      have hY : ((minL X ((subsTo c c).map fun q => 1 + max (need t r q) (need t r (c - q))) : Nat) : Int) = (need t r c : Int) := by rw [hne.out, hXd.out]; rfl
                      rw [hY]
                      clear hY
                      have hallw := bstep hBy hBw
                      have hszw := hallw.size
                      have hPl : (rowP t r c).length = M := by rw [hM.out]; exact mapR_len _ _
                      obtain ⟨ob, oo, ra, rc1, rfl, hob, d1, hi1, hset⟩ := (howny.below hBw).row r (by rw [tbl_len]; omega)
                      have hTn := tbl_new t r c (by rw [tbl_len]; omega)
                      rw [hTn] at hi1
                      have hrl : ((tblL t r c)[r]'(by rw [tbl_len]; omega)).length = M := by rw [hTn]; exact hPl
                      rw [hrl] at d1 hset
                      rw [hPl] at hi1
                      obtain ⟨rb, hrb⟩ : ∃ g, ra = some ⟨g, 0, none⟩ := by
                        rcases hi1.shape with ⟨-, h0⟩ | ⟨g, cap', e, -⟩
                        · rw [h0] at hPl; simp at hPl; omega
                        · simp only [Value.slice.injEq] at e; exact ⟨g, e.1⟩
                      subst hrb
                      obtain ⟨d2', f2⟩ := hi1.cell c (by omega)
                      obtain ⟨ov, d2⟩ : ∃ z, wr.cell? ⟨rb, c, none⟩ = some (.int .i64 z) := ⟨_, d2'⟩
                      clear d2'
                      have hgB := (OwnS.lt hi1 rb rfl).1
                      obtain ⟨hs1', hg1'⟩ := hi1.set c (need t r c : Int)
                      obtain ⟨hOn, -⟩ := hset _ _ hg1' hs1'
                      rw [tbl_set, rowP_set, show mapR (rowN t) r ++ [rowP t r (c + 1)] = tblL t r (c + 1) from rfl] at hOn
                      have hOn2 := hOn.isIn
                      have hB6 := hallw.setCell (p := ⟨rb, c, none⟩) hgB (.int .i64 (need t r c : Int))
                      replace hset := Lib.hid hset
                      clear hOn hs1' hg1' hset hTn hrl hPl hi1 howny hownx
                      go_wp2
                      go_roundw
                      case rel => first | exact ⟨c + 1, by omega, by omega, by go_num, hOn2, hB6⟩ | ((repeat apply Exists.intro); exact ⟨⟨c + 1, by omega, by omega, rfl, hOn2, hB6⟩, rfl⟩)
                      case measure => simp [intOf]; omega
            · have hd0 : decide (0 ≤ pn) = true := by rw [hpl.out, hp]
              have hne : need t r c = 0 := by rw [need_eq t r c (fun _ => hp), if_pos hp]
              have hsk : Hid (tblL t r c = tblL t r (c + 1)) := Lib.hid (by unfold tblL; rw [rowP_skip t r c hne])
              clear hne
              replace hp := Lib.hid hp
              go_wp2
              go_roundw
              case rel => first | exact ⟨c + 1, by omega, by omega, by go_num, by rw [← hsk.out]; exact hownx, hBx⟩ | ((repeat apply Exists.intro); exact ⟨⟨c + 1, by omega, by omega, rfl, by rw [← hsk.out]; exact hownx, hBx⟩, rfl⟩)
              case measure => simp [intOf]; omega
        · obtain rfl : c = M := by omega
          have hend : Hid (tblL t r c = mapR (rowN t) (r + 1)) := Lib.hid (tbl_end t r c (by rw [hM.out]; exact rowP_end t r))
          go_wp2
          go_roundw
          case rel => first | exact ⟨r + 1, by omega, by go_num, by rw [← hend.out]; exact hown, hB⟩ | ((repeat apply Exists.intro); exact ⟨⟨r + 1, by omega, rfl, by rw [← hend.out]; exact hown, hB⟩, rfl⟩)
          case measure => simp [intOf]; omega
    · obtain rfl : r = U := by omega
      go_wp2
      go_ret
      exact ⟨_, rfl, hown, hB⟩
end Go.Proofs.Ytpieaeokbblflaa
