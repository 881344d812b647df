/- How often the guess of a bit is right in a chain: the program's side; conditions: none. -/
import Derived.Test.YtjeaeninpmaoiaaJ8
import Derived.Test.YtjeaeninpmaoiaaJ9
import Derived.BigRegion
namespace Go.Proofs.Ytjeaeninpmaoiaa
open Go.RowKit

theorem blk2m {w : World} {b : Nat} {v1 v2 : Value} {t : TypeId} (h : w.heap[b]? = some (.cells #[v1, v2] t (0, 0))) :
    (w.cell? ⟨b, 0, none⟩ = some v1 ∧ w.cell? ⟨b, 1, none⟩ = some v2) ∧ w.frozen? ⟨b, 0, none⟩ = false ∧ w.frozen? ⟨b, 1, none⟩ = false := by
  refine ⟨⟨?_, ?_⟩, ?_, ?_⟩ <;> simp [World.cell?, World.frozen?, h]

theorem sum4 (l : List Int) (h : l.length = 4) : l.sum = l.getD 0 0 + l.getD 1 0 + l.getD 2 0 + l.getD 3 0 := by
  match l, h with
  | [a, b, c, d], _ => simp; omega

theorem sum_codes (g : Nat → Nat → Nat → Int) : sumT (fun q => g (2 * (q % 2) + q / 2 % 2) (q / 4 % 2) (2 * (q / 8 % 2) + q / 16)) 32 = sumT (fun q => g (q / 8) (q / 4 % 2) (q % 4)) 32 := by
  simp [sumT]
  omega
def fI (r : BoxD) (p kb s u N O : Nat) : Nat → Int := fun q => tT r p kb s u N O (2 * (q % 2) + q / 2 % 2) (q / 4 % 2) (2 * (q / 8 % 2) + q / 16)
theorem sum_fI (r : BoxD) (p kb s u N O : Nat) : sumT (fI r p kb s u N O) 32 = sumT (fS r p kb s u N O) 32 := sum_codes (tT r p kb s u N O)



set_option maxRecDepth 100000 in
set_option maxHeartbeats 8000000 in
theorem c_chainRight0 (v : Value) (r : BoxD) (k : Nat) (w : World) (h : BoxR w v r) (hc : chainB r = true) (hk : k < 16) :
    Calls Try.prog 79 #[v, .int .i64 k, .int .i64 0] w fun e w' => e = .returned (.int .i64 (rightV r k 0)) ∧ Below w.heap.size w w' := by
  obtain ⟨v4, rfl, hr⟩ := id h
  obtain ⟨a4, k4, rfl, l4⟩ := hr.out
  have hA := (Below.refl w.heap.size w).alloc (Nat.le_refl _) (.cells #[.int .i64 r.x, .int .i64 r.y, .int .i64 r.w, .slice a4 r.r.length k4] 50)
  have pB : (w.alloc (.cells #[.int .i64 r.x, .int .i64 r.y, .int .i64 r.w, .slice a4 r.r.length k4] 50)).heap[w.heap.size]? = some (.cells #[.int .i64 r.x, .int .i64 r.y, .int .i64 r.w, .slice a4 r.r.length k4] 50 (0, 0)) := heap_alloc_at rfl
  have hp : pairB r = true := by unfold chainB at hc; simp only [Bool.and_eq_true] at hc; exact hc.1
  obtain ⟨hbb, hxx, hyy, hlen⟩ := pairB_facts hp
  have hl4 := fun q (hq : q < 4) => (boxB_row hbb (show q < r.r.length by omega))
  have hcl := fun q (hq : q < 4) => chain_cell hc hq
  have hww : 0 ≤ r.w ∧ r.w ≤ 100 := by
    refine ⟨by have := (boxB_size hbb).2.2.1.1; omega, ?_⟩
    unfold chainB at hc
    simp only [Bool.and_eq_true, decide_eq_true_eq] at hc
    exact hc.2.2
  clear hp
  replace hbb := Lib.hid hbb
  replace hlen := Lib.hid hlen
  replace hxx := Lib.hid hxx
  replace hyy := Lib.hid hyy
  replace hc := Lib.hid hc
  replace hl4 := Lib.hid hl4
  replace hcl := Lib.hid hcl
  replace hww := Lib.hid hww
  obtain ⟨k0, hk0⟩ : ∃ s, s = bN 0 k := ⟨_, rfl⟩
  obtain ⟨k1, hk1⟩ : ∃ s, s = bN 1 k := ⟨_, rfl⟩
  obtain ⟨k2, hk2⟩ : ∃ s, s = bN 2 k := ⟨_, rfl⟩
  obtain ⟨k3, hk3⟩ : ∃ s, s = bN 3 k := ⟨_, rfl⟩
  have l0 : k0 ≤ 1 := hk0 ▸ bN_le _ _
  have l1 : k1 ≤ 1 := hk1 ▸ bN_le _ _
  have l2 : k2 ≤ 1 := hk2 ▸ bN_le _ _
  have l3 : k3 ≤ 1 := hk3 ▸ bN_le _ _
  have b0 : bits .and .i64 (k : Int) 1 = (k0 : Int) := by rw [hk0]; have := bandN k (2 ^ 0) 0 (by omega) rfl; simpa using this
  have b1 : bits .and .i64 ((k : Int) / 2) 1 = (k1 : Int) := by rw [hk1]; have := bandN k (2 ^ 1) 1 (by omega) rfl; simpa using this
  have b2 : bits .and .i64 ((k : Int) / 4) 1 = (k2 : Int) := by rw [hk2]; have := bandN k (2 ^ 2) 2 (by omega) rfl; simpa using this
  have b3 : bits .and .i64 ((k : Int) / 8) 1 = (k3 : Int) := by rw [hk3]; have := bandN k (2 ^ 3) 3 (by omega) rfl; simpa using this
  have lx := bx_le k0 k1
  have ly := bx_le k2 k3
  have xst := bits_bx k0 k1 (by omega) (by omega)
  have xuv := bits_bx k2 k3 (by omega) (by omega)
  obtain ⟨F, hF⟩ : ∃ F, F = fI r 0 k0 k0 k2 (bx k0 k1 * 2 + 0) (bx k2 k3 * 2 + 0) := ⟨_, rfl⟩
  have hRes : Hid (rightV r k 0 = sumT F 32) := Lib.hid (by rw [hF, sum_fI, hk0, hk1, hk2, hk3]; rfl)
  obtain ⟨x, hx⟩ : ∃ x, x = bx k0 k1 := ⟨_, rfl⟩
  obtain ⟨y, hy⟩ : ∃ y, y = bx k2 k3 := ⟨_, rfl⟩
  rw [← hx] at lx xst hF
  rw [← hy] at ly xuv hF
  have hFb := sumT_bound (F := F) (fun q => by rw [hF]; exact tT_bound hc.out (by decide) (by omega) (by omega))
  replace hk0 := Lib.hid hk0
  replace hk1 := Lib.hid hk1
  replace hk2 := Lib.hid hk2
  replace hk3 := Lib.hid hk3
  replace hF := Lib.hid hF
  replace hFb := Lib.hid hFb
  replace hx := Lib.hid hx
  replace hy := Lib.hid hy
  obtain ⟨wp, hwp⟩ : ∃ q, q = (w.alloc (.cells #[.int .i64 r.x, .int .i64 r.y, .int .i64 r.w, .slice a4 r.r.length k4] 50)).alloc (.cells #[.int .i64 k0, .int .i64 k1, .int .i64 k2, .int .i64 k3] 75) := ⟨_, rfl⟩
  have pP : wp.heap[w.heap.size + 1]? = some (.cells #[.int .i64 k0, .int .i64 k1, .int .i64 k2, .int .i64 k3] 75 (0, 0)) := by rw [hwp]; exact heap_alloc_at (by simp)
  have hAP : Below (w.heap.size + 1) (w.alloc (.cells #[.int .i64 r.x, .int .i64 r.y, .int .i64 r.w, .slice a4 r.r.length k4] 50)) wp := by rw [hwp]; exact (Below.refl _ _).alloc (by simp) _
  replace pB := (hAP.block _ (by omega)).trans pB
  have hA2 := hA.trans (hAP.mono (by omega))
  have hszp : wp.heap.size = w.heap.size + 2 := by rw [hwp]; simp
  replace hwp := Lib.hid hwp
  clear hA hAP
  go_enter Try.func79, Try.ntmps79
  go_wp2_with fail
  rw [← hwp.out]
  go_loopw [10, 39] (fun sm a wr => ∃ q : Nat, q ≤ 32 ∧ a = .int .i64 q ∧ sm = .int .i64 (sumT F q) ∧ Below (w.heap.size + 2) wp wr) (fun _ a _ => 32 - (intOf a).toNat)
  case atStart => exact ⟨0, by omega, rfl, rfl, Below.refl _ _⟩
  case round =>
    obtain ⟨q, hq, rfl, rfl, hB⟩ := hrel
    have hbq := hFb.out q
    by_cases hlq : q < 32
    · have hdq : decide ((q : Int) < 32) = true := by simp; omega
      obtain ⟨ca, hca⟩ : ∃ z, z = bN 0 q := ⟨_, rfl⟩
      obtain ⟨cc, hcc⟩ : ∃ z, z = bN 1 q := ⟨_, rfl⟩
      obtain ⟨cd, hcd⟩ : ∃ z, z = bN 2 q := ⟨_, rfl⟩
      obtain ⟨ce, hce⟩ : ∃ z, z = bN 3 q := ⟨_, rfl⟩
      obtain ⟨cf, hcf⟩ : ∃ z, z = bN 4 q := ⟨_, rfl⟩
      have q0 : bits .and .i64 (q : Int) 1 = (ca : Int) := by rw [hca]; have := bandN q (2 ^ 0) 0 (by omega) rfl; simpa using this
      have q1 : bits .and .i64 ((q : Int) / 2) 1 = (cc : Int) := by rw [hcc]; have := bandN q (2 ^ 1) 1 (by omega) rfl; simpa using this
      have q2 : bits .and .i64 ((q : Int) / 4) 1 = (cd : Int) := by rw [hcd]; have := bandN q (2 ^ 2) 2 (by omega) rfl; simpa using this
      have q3 : bits .and .i64 ((q : Int) / 8) 1 = (ce : Int) := by rw [hce]; have := bandN q (2 ^ 3) 3 (by omega) rfl; simpa using this
      have q4 : bits .and .i64 ((q : Int) / 16) 1 = (cf : Int) := by rw [hcf]; have := bandN q (2 ^ 4) 4 (by omega) rfl; simpa using this
      have la : ca ≤ 1 := hca ▸ bN_le _ _
      have lc : cc ≤ 1 := hcc ▸ bN_le _ _
      have ld : cd ≤ 1 := hcd ▸ bN_le _ _
      have le : ce ≤ 1 := hce ▸ bN_le _ _
      have lf : cf ≤ 1 := hcf ▸ bN_le _ _
      obtain ⟨m, hm⟩ : ∃ q, q = bx k0 ca := ⟨_, rfl⟩
      obtain ⟨n, hn⟩ : ∃ q, q = bx k2 cd := ⟨_, rfl⟩
      obtain ⟨dd, hdd⟩ : ∃ q, q = bx m n := ⟨_, rfl⟩
      have lm : m ≤ 1 := hm ▸ bx_le _ _
      have ln : n ≤ 1 := hn ▸ bx_le _ _
      have ldd : dd ≤ 1 := hdd ▸ bx_le _ _
      have xm : bits .xor .i64 (k0 : Int) (ca : Int) = (m : Int) := by rw [hm]; exact bits_bx k0 ca (by omega) la
      have xn : bits .xor .i64 (k2 : Int) (cd : Int) = (n : Int) := by rw [hn]; exact bits_bx k2 cd (by omega) ld
      have xd : bits .xor .i64 (m : Int) (n : Int) = (dd : Int) := by rw [hdd]; exact bits_bx m n (by omega) (by omega)
      obtain ⟨g1, hg1⟩ : ∃ q, q = bx m ce := ⟨_, rfl⟩
      obtain ⟨g2, hg2⟩ : ∃ q, q = bx g1 cf := ⟨_, rfl⟩
      obtain ⟨g3, hg3⟩ : ∃ q, q = bx g2 cc := ⟨_, rfl⟩
      have lg1 : g1 ≤ 1 := hg1 ▸ bx_le _ _
      have lg2 : g2 ≤ 1 := hg2 ▸ bx_le _ _
      have xg1 : bits .xor .i64 (m : Int) (ce : Int) = (g1 : Int) := by rw [hg1]; exact bits_bx _ ce (by omega) le
      have xg2 : bits .xor .i64 (g1 : Int) (cf : Int) = (g2 : Int) := by rw [hg2]; exact bits_bx g1 cf lg1 lf
      have xg3 : bits .xor .i64 (g2 : Int) (cc : Int) = (g3 : Int) := by rw [hg3]; exact bits_bx g2 cc lg2 lc
      obtain ⟨sm, hsm⟩ : ∃ z, z = sumT F q := ⟨_, rfl⟩
      obtain ⟨qN, hqN⟩ : ∃ q, q = cellB r (x * 2 + 0) (2 * ca + cc) := ⟨_, rfl⟩
      obtain ⟨on, hon⟩ : ∃ q, q = cellB r (y * 2 + 0) (2 * cd) + cellB r (y * 2 + 0) (2 * cd + 1) := ⟨_, rfl⟩
      obtain ⟨qD, hqD⟩ : ∃ q, q = cellB r (dd * 2 + 0) (2 * ce + cf) := ⟨_, rfl⟩
      have hdm : dd = bx m n := by rw [hdd] <;> (unfold bx; omega)
      have hT : F q = if g3 = k0 then qN * on * qD else 0 := by
        rw [hF.out]
        unfold fI tT
        rw [show q % 2 = ca by rw [hca]; unfold bN; simp, show q / 2 % 2 = cc by rw [hcc]; unfold bN; simp, show q / 4 % 2 = cd by rw [hcd]; unfold bN; simp, show q / 8 % 2 = ce by rw [hce]; unfold bN; simp, show q / 16 = cf by rw [hcf]; unfold bN; simp <;> omega]
        rw [show (2 * ca + cc) / 2 = ca by omega, show (2 * ca + cc) % 2 = cc by omega, show (2 * ce + cf) / 2 = ce by omega, show (2 * ce + cf) % 2 = cf by omega]
        rw [← hm, ← hn, ← hdm]
        rw [hg3, hg2, hg1, hqN, hon, hqD]
        rfl
      have hst : sumT F (q + 1) = sm + F q := by rw [hsm]; rfl
      rw [hT] at hst
      have bN1 : 0 ≤ qN ∧ qN ≤ 100 := hqN ▸ hcl.out _ (by omega) _
      have bO0 : 0 ≤ on ∧ on ≤ 200 := by
        have u1 := hcl.out (y * 2 + 0) (by omega) (2 * cd)
        have u2 := hcl.out (y * 2 + 0) (by omega) (2 * cd + 1)
        omega
      have bD : 0 ≤ qD ∧ qD ≤ 100 := hqD ▸ hcl.out _ (by omega) _
      have bP1 := mul_bound bN1 bO0
      have bP2 := mul_bound bP1 bD
      rw [← hsm] at hbq ⊢
      clear hT hca hcc hcd hce hcf hg1 hg2 hg3 hdd hdm hm hn
      replace hst := Lib.hid hst
      replace hsm := Lib.hid hsm
      replace hqN := Lib.hid hqN
      replace hon := Lib.hid hon
      replace hqD := Lib.hid hqD
      have hszr := hB.size
      have hallr := hA2.trans (hB.mono (by omega))
      obtain ⟨wc, hwc⟩ : ∃ z, z = wr.alloc (.cells #[.int .i64 0, .int .i64 0] 48) := ⟨_, rfl⟩
      have hszc : wc.heap.size = wr.heap.size + 1 := by rw [hwc]; simp
      have pM : wc.heap[wr.heap.size]? = some (.cells #[.int .i64 0, .int .i64 0] 48 (0, 0)) := by rw [hwc]; exact heap_alloc_at rfl
      have hC : Below wr.heap.size wr wc := by rw [hwc]; exact (Below.refl _ _).alloc (by simp) _
      replace hwc := Lib.hid hwc
      have pP2 := ((hC.block _ (by omega)).trans (hB.block _ (by omega))).trans pP
      go_wp2_with fail
      rw [← hwc.out]
      obtain ⟨⟨y0, y1, y2, y3⟩, -⟩ := blk4 pP2
      obtain ⟨⟨n0, n1⟩, n2, n3⟩ := blk2m pM
      have pM2 := block_set (j := 1) (v := .int .i64 n) (block_set (j := 0) (v := .int .i64 m) pM)
      clear pM pP2
      go_region
      obtain ⟨wd, hwd⟩ : ∃ z, z = ((wc.setCell ⟨wr.heap.size, 0, none⟩ (.int .i64 m)).setCell ⟨wr.heap.size, 1, none⟩ (.int .i64 n)).drew := ⟨_, rfl⟩
      have hD : Below (w.heap.size + 2) wr wd := by rw [hwd]; exact (((hC.mono (by omega)).setCell (by simp; omega) _).setCell (by simp; omega) _).drew
      have pM3 : wd.heap[wr.heap.size]? = some (.cells #[.int .i64 m, .int .i64 n] 48 (0, 0)) := by rw [hwd]; exact pM2
      have hszd : wd.heap.size = wr.heap.size + 1 := by rw [hwd]; simp [hszc]
      rw [← hwd]
      clear hwd pM2 n0 n1 n2 n3 y0 y1 y2 y3 hC hwc hszc wc
      have hB2 := hB.trans hD
      have halld := hA2.trans (hB2.mono (by omega))
      obtain ⟨⟨n0, n1⟩, -⟩ := blk2m pM3
      obtain ⟨⟨y0, y1, y2, y3⟩, -⟩ := blk4 ((hB2.block _ (by omega)).trans pP)
      obtain ⟨⟨z0, z1, z2, z3⟩, -⟩ := blk4 ((hB2.block _ (by omega)).trans pB)
      clear hD hB
      cases hg : ((g3 : Int) != (k0 : Int))
      · have hst2 : Hid (sumT F (q + 1) = sm + qN * on * qD) := Lib.hid (by rw [hst.out, if_pos (by have := hg; simp at this; omega)])
        have hw1 := hww.out
        obtain ⟨o1, ho1⟩ : ∃ z, z = one0 r (y * 2 + 0) := ⟨_, rfl⟩
        have bo1 : 0 ≤ o1 ∧ o1 ≤ 200 := by
          have u1 := hcl.out (y * 2 + 0) (by omega) 2
          have u2 := hcl.out (y * 2 + 0) (by omega) 3
          unfold one0 at ho1
          omega
        have hsu : Hid (r.w - o1 = cellB r (y * 2 + 0) 0 + cellB r (y * 2 + 0) 1) := Lib.hid (by
          have u1 := hl4.out (y * 2 + 0) (by omega)
          have u2 := sum4 _ u1.1
          rw [u1.2.2] at u2
          unfold one0 cellB at ho1
          unfold cellB
          omega)
        replace ho1 := Lib.hid ho1
        go_wp2_with fail
        clear b0 b1 b2 b3 q0 q1 q2 q3 q4 xm xn xg1 xg2 xg3 hg
        refine wp_region_rk (by kernel_rfl) [none, none, none, none, none, none, none, none, none, none, none, none, none, none, none, none, none, none, none, some 11, none, none, none, none, none, none, none, none, none, none, none, none, none, none, none, none, none, none, none, none, none, none, none, none, none, none, none, none, none, none, none, none, none, none, none, none, none, none, none, none, none, none, none, none, none, none, none, none, none, none, none, none, none, none, none, none, none, none, none, none, none, none, none, none, none, none, none, some 0, some 1, some 2, some 3, some 4, some 5, some 6, some 7, some 8, some 9, some 10] 11 (by kernel_rfl) (by kernel_rfl) (by kernel_rfl) _ rfl w.heap.size [rkV (.agg #[.int .i64 r.x, .int .i64 r.y, .int .i64 r.w, .slice a4 r.r.length k4]), rkV (.int .i64 1), rkV (.pointer (some ⟨w.heap.size + 1, 2, none⟩)), rkV (.pointer (some ⟨w.heap.size + 1, 2, none⟩)), rkV (.int .i64 (k2 : Int)), rkV (.int .i64 1), rkV (.pointer (some ⟨w.heap.size + 1, 2, none⟩)), rkV (.pointer (some ⟨w.heap.size + 1, 3, none⟩)), rkV (.int .i64 (k3 : Int)), rkV (.int .i64 (y : Int)), rkV (.int .i64 o1)] _ rfl (by kernel_rfl) (by simp) ?_ ?_
        · intro i o ho hi u g ww hbw hd
          have hall : Below w.heap.size w ww := halld.trans (hbw.mono (by omega))
          have hlow : w.heap.size ≤ ww.heap.size := hall.size
          obtain ⟨hcl, hfr⟩ := bcell hbw
          have y_y0 := (hcl _ _ (by omega)).trans y0
          have y_y1 := (hcl _ _ (by omega)).trans y1
          have y_y2 := (hcl _ _ (by omega)).trans y2
          have y_y3 := (hcl _ _ (by omega)).trans y3
          have y_z0 := (hcl _ _ (by omega)).trans z0
          have y_z1 := (hcl _ _ (by omega)).trans z1
          have y_z2 := (hcl _ _ (by omega)).trans z2
          have y_z3 := (hcl _ _ (by omega)).trans z3
          clear hcl hfr
          rcases i with _ | _ | _ | _ | _ | _ | _ | _ | _ | _ | _ | _ | i
          all_goals try obtain rfl := Option.some.inj ho
          all_goals try simp only [putAll, fillL]
          · go_wp2
            exact ⟨_, rfl, kept0 (Below.refl _ _), rfl⟩
          · go_wp2
            exact ⟨_, rfl, kept0 (Below.refl _ _), rfl⟩
          · have e1 : u 1 = .int .i64 1 := hd 1 (by decide)
            rw [e1]
            go_wp2
            exact ⟨_, by simp only [putAll, fillL, e1] <;> rfl, kept0 (Below.refl _ _), rfl⟩
          · have e2 : u 2 = .pointer (some ⟨w.heap.size + 1, 2, none⟩) := hd 2 (by decide)
            rw [e2]
            go_wp2
            exact ⟨_, by simp only [putAll, fillL, e2] <;> rfl, kept0 (Below.refl _ _), rfl⟩
          · have e3 : u 3 = .pointer (some ⟨w.heap.size + 1, 2, none⟩) := hd 3 (by decide)
            rw [e3]
            go_wp2
            exact ⟨_, by simp only [putAll, fillL, e3] <;> rfl, kept0 (Below.refl _ _), rfl⟩
          · go_wp2
            exact ⟨_, rfl, kept0 (Below.refl _ _), rfl⟩
          · have e5 : u 5 = .int .i64 1 := hd 5 (by decide)
            rw [e5]
            go_wp2
            exact ⟨_, by simp only [putAll, fillL, e5] <;> rfl, kept0 (Below.refl _ _), rfl⟩
          · have e6 : u 6 = .pointer (some ⟨w.heap.size + 1, 2, none⟩) := hd 6 (by decide)
            rw [e6]
            go_wp2
            exact ⟨_, by simp only [putAll, fillL, e6] <;> rfl, kept0 (Below.refl _ _), rfl⟩
          · have e7 : u 7 = .pointer (some ⟨w.heap.size + 1, 3, none⟩) := hd 7 (by decide)
            rw [e7]
            go_wp2
            exact ⟨_, by simp only [putAll, fillL, e7] <;> rfl, kept0 (Below.refl _ _), rfl⟩
          · have e4 : u 4 = .int .i64 (k2 : Int) := hd 4 (by decide)
            rw [e4]
            have e8 : u 8 = .int .i64 (k3 : Int) := hd 8 (by decide)
            rw [e8]
            go_wp2
            exact ⟨_, by simp only [putAll, fillL, e4, e8] <;> rfl, kept0 (Below.refl _ _), rfl⟩
          · have e0 : u 0 = .agg #[.int .i64 r.x, .int .i64 r.y, .int .i64 r.w, .slice a4 r.r.length k4] := hd 0 (by decide)
            rw [e0]
            have e9 : u 9 = .int .i64 (y : Int) := hd 9 (by decide)
            rw [e9]
            go_wp2_with fail
            refine (ho1.out ▸ c_ones0 _ r y 0 2 _ (h.below hall) hyy.out (by omega) hbb.out (by rw [hlen.out]; omega)).mono ?_
            rintro e wn ⟨rfl, hbn⟩
            go_wp2
            exact ⟨_, by simp only [putAll, fillL, e0, e9] <;> rfl, kept0 hbn, rfl⟩
          · exact absurd rfl hi
          · simp at ho
        · intro u g w5 hbw hR hAp
          have e10 : u 10 = .int .i64 o1 := hR 10 (by decide) (by decide)
          have hB5 := hB2.trans (hbw.mono (by omega))
          have pM5 := (hbw.block _ (by omega)).trans pM3
          have hsz5 := hbw.size
          clear hR hAp n0 n1 y0 y1 y2 y3 z0 z1 z2 z3 hB2 halld hbw
          simp only [putAll, fillL]
          rw [e10]
          clear e10
          have halld := hA2.trans (hB5.mono (by omega))
          obtain ⟨⟨n0, n1⟩, -⟩ := blk2m pM5
          obtain ⟨⟨y0, y1, y2, y3⟩, -⟩ := blk4 ((hB5.block _ (by omega)).trans pP)
          obtain ⟨⟨z0, z1, z2, z3⟩, -⟩ := blk4 ((hB5.block _ (by omega)).trans pB)
          cases hz : ((cd : Int) == 0)
          · have hE : o1 = on := by
              have : cd = 1 := by have := hz; simp at this; omega
              rw [hon.out, ho1.out, this]
              rfl
            go_wp2_with fail
            try rw [hE]
            clear hE hz xuv
            refine wp_region_rkt (by kernel_rfl) [none, none, none, none, none, none, none, none, none, none, some 30, none, none, none, none, none, none, none, none, none, none, none, none, none, none, none, none, none, none, none, none, none, none, none, none, none, none, none, none, none, none, none, none, none, none, none, none, none, none, none, none, none, none, none, none, none, none, none, none, none, none, none, none, none, none, none, none, none, none, none, none, none, none, none, none, none, none, none, none, none, none, none, none, none, none, none, none, none, none, none, none, none, none, none, none, none, none, none, none, none, none, none, none, none, some 0, some 1, some 2, some 3, some 4, some 5, some 6, some 7, some 8, some 9, some 10, some 11, some 12, some 13, some 14, some 15, some 16, some 17, some 18, some 19, some 20, some 21, some 22, some 23, some 24, some 25, some 26, some 27, some 28, some 29] 29 30 (by kernel_rfl) (by kernel_rfl) (by kernel_rfl) _ _ rfl rfl 10 rfl w.heap.size [rkV (.int .i64 sm), rkV (.agg #[.int .i64 r.x, .int .i64 r.y, .int .i64 r.w, .slice a4 r.r.length k4]), rkV (.int .i64 0), rkV (.pointer (some ⟨w.heap.size + 1, 0, none⟩)), rkV (.pointer (some ⟨w.heap.size + 1, 0, none⟩)), rkV (.int .i64 (k0 : Int)), rkV (.int .i64 0), rkV (.pointer (some ⟨w.heap.size + 1, 0, none⟩)), rkV (.pointer (some ⟨w.heap.size + 1, 1, none⟩)), rkV (.int .i64 (k1 : Int)), rkV (.int .i64 (x : Int)), rkV (.int .i64 0), rkV (.int .i64 0), rkV (.int .i64 (ca : Int)), rkV (.int .i64 (cc : Int)), rkV (.int .i64 qN), rkV (.int .i64 on), rkV (.int .i64 (qN * on)), rkV (.agg #[.int .i64 r.x, .int .i64 r.y, .int .i64 r.w, .slice a4 r.r.length k4]), rkV (.pointer (some ⟨wr.heap.size, 0, none⟩)), rkV (.int .i64 (m : Int)), rkV (.pointer (some ⟨wr.heap.size, 1, none⟩)), rkV (.int .i64 (n : Int)), rkV (.int .i64 (dd : Int)), rkV (.int .i64 0), rkV (.int .i64 (ce : Int)), rkV (.int .i64 (cf : Int)), rkV (.int .i64 qD), rkV (.int .i64 (qN * on * qD))] _ rfl (by kernel_rfl) (by simp) ?_ ?_
            · intro i o ho hi hi2 u g ww hbw hu2 hd
              replace hu2 : u 30 = .int .i64 sm := hu2
              have hall : Below w.heap.size w ww := halld.trans (hbw.mono (by omega))
              have hlow : w.heap.size ≤ ww.heap.size := hall.size
              obtain ⟨hcl, hfr⟩ := bcell hbw
              have y_n0 := (hcl _ _ (by omega)).trans n0
              have y_n1 := (hcl _ _ (by omega)).trans n1
              have y_y0 := (hcl _ _ (by omega)).trans y0
              have y_y1 := (hcl _ _ (by omega)).trans y1
              have y_y2 := (hcl _ _ (by omega)).trans y2
              have y_y3 := (hcl _ _ (by omega)).trans y3
              have y_z0 := (hcl _ _ (by omega)).trans z0
              have y_z1 := (hcl _ _ (by omega)).trans z1
              have y_z2 := (hcl _ _ (by omega)).trans z2
              have y_z3 := (hcl _ _ (by omega)).trans z3
              clear hcl hfr
              rcases i with _ | _ | _ | _ | _ | _ | _ | _ | _ | _ | _ | _ | _ | _ | _ | _ | _ | _ | _ | _ | _ | _ | _ | _ | _ | _ | _ | _ | _ | _ | _ | i
              all_goals try obtain rfl := Option.some.inj ho
              all_goals try simp only [putAll, fillL]
              · rw [hu2]
                go_wp2
                exact ⟨_, by simp only [putAll, fillL, hu2] <;> rfl, kept0 (Below.refl _ _), rfl⟩
              · go_wp2
                exact ⟨_, by simp only [putAll, fillL, hu2] <;> rfl, kept0 (Below.refl _ _), rfl⟩
              · go_wp2
                exact ⟨_, by simp only [putAll, fillL, hu2] <;> rfl, kept0 (Below.refl _ _), rfl⟩
              · have e2 : u 2 = .int .i64 0 := hd 2 (by decide)
                rw [e2]
                go_wp2
                exact ⟨_, by simp only [putAll, fillL, hu2, e2] <;> rfl, kept0 (Below.refl _ _), rfl⟩
              · have e3 : u 3 = .pointer (some ⟨w.heap.size + 1, 0, none⟩) := hd 3 (by decide)
                rw [e3]
                go_wp2
                exact ⟨_, by simp only [putAll, fillL, hu2, e3] <;> rfl, kept0 (Below.refl _ _), rfl⟩
              · have e4 : u 4 = .pointer (some ⟨w.heap.size + 1, 0, none⟩) := hd 4 (by decide)
                rw [e4]
                go_wp2
                exact ⟨_, by simp only [putAll, fillL, hu2, e4] <;> rfl, kept0 (Below.refl _ _), rfl⟩
              · go_wp2
                exact ⟨_, by simp only [putAll, fillL, hu2] <;> rfl, kept0 (Below.refl _ _), rfl⟩
              · have e6 : u 6 = .int .i64 0 := hd 6 (by decide)
                rw [e6]
                go_wp2
                exact ⟨_, by simp only [putAll, fillL, hu2, e6] <;> rfl, kept0 (Below.refl _ _), rfl⟩
              · have e7 : u 7 = .pointer (some ⟨w.heap.size + 1, 0, none⟩) := hd 7 (by decide)
                rw [e7]
                go_wp2
                exact ⟨_, by simp only [putAll, fillL, hu2, e7] <;> rfl, kept0 (Below.refl _ _), rfl⟩
              · have e8 : u 8 = .pointer (some ⟨w.heap.size + 1, 1, none⟩) := hd 8 (by decide)
                rw [e8]
                go_wp2
                exact ⟨_, by simp only [putAll, fillL, hu2, e8] <;> rfl, kept0 (Below.refl _ _), rfl⟩
              · have e5 : u 5 = .int .i64 (k0 : Int) := hd 5 (by decide)
                rw [e5]
                have e9 : u 9 = .int .i64 (k1 : Int) := hd 9 (by decide)
                rw [e9]
                go_wp2
                exact ⟨_, by simp only [putAll, fillL, hu2, e5, e9] <;> rfl, kept0 (Below.refl _ _), rfl⟩
              · go_wp2
                exact ⟨_, by simp only [putAll, fillL, hu2] <;> rfl, kept0 (Below.refl _ _), rfl⟩
              · have e11 : u 11 = .int .i64 0 := hd 11 (by decide)
                rw [e11]
                go_wp2
                exact ⟨_, by simp only [putAll, fillL, hu2, e11] <;> rfl, kept0 (Below.refl _ _), rfl⟩
              · go_wp2
                exact ⟨_, by simp only [putAll, fillL, hu2] <;> rfl, kept0 (Below.refl _ _), rfl⟩
              · go_wp2
                exact ⟨_, by simp only [putAll, fillL, hu2] <;> rfl, kept0 (Below.refl _ _), rfl⟩
              · have e1 : u 1 = .agg #[.int .i64 r.x, .int .i64 r.y, .int .i64 r.w, .slice a4 r.r.length k4] := hd 1 (by decide)
                rw [e1]
                have e10 : u 10 = .int .i64 (x : Int) := hd 10 (by decide)
                rw [e10]
                have e12 : u 12 = .int .i64 0 := hd 12 (by decide)
                rw [e12]
                have e13 : u 13 = .int .i64 (ca : Int) := hd 13 (by decide)
                rw [e13]
                have e14 : u 14 = .int .i64 (cc : Int) := hd 14 (by decide)
                rw [e14]
                go_wp2_with fail
                refine (hqN.out ▸ c_at _ r x 0 ca cc 2 _ (h.below hall) hyy.out (by omega) (by rw [hlen.out]; omega) (by rw [(hl4.out _ (by omega)).1]; omega) (by omega)).mono ?_
                rintro e wn ⟨rfl, hbn⟩
                go_wp2
                exact ⟨_, by simp only [putAll, fillL, hu2, e1, e10, e12, e13, e14] <;> rfl, kept0 hbn, rfl⟩
              · go_wp2
                exact ⟨_, by simp only [putAll, fillL, hu2] <;> rfl, kept0 (Below.refl _ _), rfl⟩
              · have e15 : u 15 = .int .i64 qN := hd 15 (by decide)
                rw [e15]
                have e16 : u 16 = .int .i64 on := hd 16 (by decide)
                rw [e16]
                go_wp2
                exact ⟨_, by simp only [putAll, fillL, hu2, e15, e16] <;> rfl, kept0 (Below.refl _ _), rfl⟩
              · go_wp2
                exact ⟨_, by simp only [putAll, fillL, hu2] <;> rfl, kept0 (Below.refl _ _), rfl⟩
              · go_wp2
                exact ⟨_, by simp only [putAll, fillL, hu2] <;> rfl, kept0 (Below.refl _ _), rfl⟩
              · have e19 : u 19 = .pointer (some ⟨wr.heap.size, 0, none⟩) := hd 19 (by decide)
                rw [e19]
                go_wp2
                exact ⟨_, by simp only [putAll, fillL, hu2, e19] <;> rfl, kept0 (Below.refl _ _), rfl⟩
              · go_wp2
                exact ⟨_, by simp only [putAll, fillL, hu2] <;> rfl, kept0 (Below.refl _ _), rfl⟩
              · have e21 : u 21 = .pointer (some ⟨wr.heap.size, 1, none⟩) := hd 21 (by decide)
                rw [e21]
                go_wp2
                exact ⟨_, by simp only [putAll, fillL, hu2, e21] <;> rfl, kept0 (Below.refl _ _), rfl⟩
              · have e20 : u 20 = .int .i64 (m : Int) := hd 20 (by decide)
                rw [e20]
                have e22 : u 22 = .int .i64 (n : Int) := hd 22 (by decide)
                rw [e22]
                go_wp2
                exact ⟨_, by simp only [putAll, fillL, hu2, e20, e22] <;> rfl, kept0 (Below.refl _ _), rfl⟩
              · go_wp2
                exact ⟨_, by simp only [putAll, fillL, hu2] <;> rfl, kept0 (Below.refl _ _), rfl⟩
              · go_wp2
                exact ⟨_, by simp only [putAll, fillL, hu2] <;> rfl, kept0 (Below.refl _ _), rfl⟩
              · go_wp2
                exact ⟨_, by simp only [putAll, fillL, hu2] <;> rfl, kept0 (Below.refl _ _), rfl⟩
              · have e18 : u 18 = .agg #[.int .i64 r.x, .int .i64 r.y, .int .i64 r.w, .slice a4 r.r.length k4] := hd 18 (by decide)
                rw [e18]
                have e23 : u 23 = .int .i64 (dd : Int) := hd 23 (by decide)
                rw [e23]
                have e24 : u 24 = .int .i64 0 := hd 24 (by decide)
                rw [e24]
                have e25 : u 25 = .int .i64 (ce : Int) := hd 25 (by decide)
                rw [e25]
                have e26 : u 26 = .int .i64 (cf : Int) := hd 26 (by decide)
                rw [e26]
                go_wp2_with fail
                refine (hqD.out ▸ c_at _ r dd 0 ce cf 2 _ (h.below hall) hyy.out (by omega) (by rw [hlen.out]; omega) (by rw [(hl4.out _ (by omega)).1]; omega) (by omega)).mono ?_
                rintro e wn ⟨rfl, hbn⟩
                go_wp2
                exact ⟨_, by simp only [putAll, fillL, hu2, e18, e23, e24, e25, e26] <;> rfl, kept0 hbn, rfl⟩
              · have e17 : u 17 = .int .i64 (qN * on) := hd 17 (by decide)
                rw [e17]
                have e27 : u 27 = .int .i64 qD := hd 27 (by decide)
                rw [e27]
                go_wp2
                exact ⟨_, by simp only [putAll, fillL, hu2, e17, e27] <;> rfl, kept0 (Below.refl _ _), rfl⟩
              · exact absurd rfl hi
              · exact absurd rfl hi2
              · simp at ho
            · intro uu g w7 hbw hu2 hR hAp
              have e28 : uu 28 = .int .i64 (qN * on * qD) := hR 28 (by decide) (by decide) (by decide)
              have e0 : uu 0 = .int .i64 sm := hR 0 (by decide) (by decide) (by decide)
              replace hu2 : uu 30 = .int .i64 sm := hu2
              have hB7 := hB5.trans (hbw.mono (by omega))
              clear hR hAp n0 n1 y0 y1 y2 y3 z0 z1 z2 z3 hbw hB5 halld
              simp only [putAll, fillL]
              rw [hu2, e28, e0]
              clear hu2 e28 e0
              go_wp2
              go_roundw
              case rel => first | exact ⟨q + 1, by omega, by go_num, by rw [hst2.out], hB7⟩ | ((repeat apply Exists.intro); exact ⟨⟨q + 1, by omega, rfl, by rw [hst2.out], hB7⟩, rfl⟩)
              case measure => simp [intOf]; omega
          · have hE : r.w - o1 = on := by
              have : cd = 0 := by have := hz; simp at this; omega
              rw [hon.out, hsu.out, this]
            go_wp2_with fail
            try rw [hE]
            clear hE hz xuv
            refine wp_region_rkt (by kernel_rfl) [none, none, none, none, none, none, none, none, none, none, some 30, none, none, none, none, none, none, none, none, none, none, none, none, none, none, none, none, none, none, none, none, none, none, none, none, none, none, none, none, none, none, none, none, none, none, none, none, none, none, none, none, none, none, none, none, none, none, none, none, none, none, none, none, none, none, none, none, none, none, none, none, none, none, none, none, none, none, none, none, none, none, none, none, none, none, none, none, none, none, none, none, none, none, none, none, none, none, none, none, none, none, none, none, none, some 0, some 1, some 2, some 3, some 4, some 5, some 6, some 7, some 8, some 9, some 10, some 11, some 12, some 13, some 14, some 15, some 16, some 17, some 18, some 19, some 20, some 21, some 22, some 23, some 24, some 25, some 26, some 27, some 28, some 29] 29 30 (by kernel_rfl) (by kernel_rfl) (by kernel_rfl) _ _ rfl rfl 10 rfl w.heap.size [rkV (.int .i64 sm), rkV (.agg #[.int .i64 r.x, .int .i64 r.y, .int .i64 r.w, .slice a4 r.r.length k4]), rkV (.int .i64 0), rkV (.pointer (some ⟨w.heap.size + 1, 0, none⟩)), rkV (.pointer (some ⟨w.heap.size + 1, 0, none⟩)), rkV (.int .i64 (k0 : Int)), rkV (.int .i64 0), rkV (.pointer (some ⟨w.heap.size + 1, 0, none⟩)), rkV (.pointer (some ⟨w.heap.size + 1, 1, none⟩)), rkV (.int .i64 (k1 : Int)), rkV (.int .i64 (x : Int)), rkV (.int .i64 0), rkV (.int .i64 0), rkV (.int .i64 (ca : Int)), rkV (.int .i64 (cc : Int)), rkV (.int .i64 qN), rkV (.int .i64 on), rkV (.int .i64 (qN * on)), rkV (.agg #[.int .i64 r.x, .int .i64 r.y, .int .i64 r.w, .slice a4 r.r.length k4]), rkV (.pointer (some ⟨wr.heap.size, 0, none⟩)), rkV (.int .i64 (m : Int)), rkV (.pointer (some ⟨wr.heap.size, 1, none⟩)), rkV (.int .i64 (n : Int)), rkV (.int .i64 (dd : Int)), rkV (.int .i64 0), rkV (.int .i64 (ce : Int)), rkV (.int .i64 (cf : Int)), rkV (.int .i64 qD), rkV (.int .i64 (qN * on * qD))] _ rfl (by kernel_rfl) (by simp) ?_ ?_
            · intro i o ho hi hi2 u g ww hbw hu2 hd
              replace hu2 : u 30 = .int .i64 sm := hu2
              have hall : Below w.heap.size w ww := halld.trans (hbw.mono (by omega))
              have hlow : w.heap.size ≤ ww.heap.size := hall.size
              obtain ⟨hcl, hfr⟩ := bcell hbw
              have y_n0 := (hcl _ _ (by omega)).trans n0
              have y_n1 := (hcl _ _ (by omega)).trans n1
              have y_y0 := (hcl _ _ (by omega)).trans y0
              have y_y1 := (hcl _ _ (by omega)).trans y1
              have y_y2 := (hcl _ _ (by omega)).trans y2
              have y_y3 := (hcl _ _ (by omega)).trans y3
              have y_z0 := (hcl _ _ (by omega)).trans z0
              have y_z1 := (hcl _ _ (by omega)).trans z1
              have y_z2 := (hcl _ _ (by omega)).trans z2
              have y_z3 := (hcl _ _ (by omega)).trans z3
              clear hcl hfr
              rcases i with _ | _ | _ | _ | _ | _ | _ | _ | _ | _ | _ | _ | _ | _ | _ | _ | _ | _ | _ | _ | _ | _ | _ | _ | _ | _ | _ | _ | _ | _ | _ | i
              all_goals try obtain rfl := Option.some.inj ho
              all_goals try simp only [putAll, fillL]
              · rw [hu2]
                go_wp2
                exact ⟨_, by simp only [putAll, fillL, hu2] <;> rfl, kept0 (Below.refl _ _), rfl⟩
              · go_wp2
                exact ⟨_, by simp only [putAll, fillL, hu2] <;> rfl, kept0 (Below.refl _ _), rfl⟩
              · go_wp2
                exact ⟨_, by simp only [putAll, fillL, hu2] <;> rfl, kept0 (Below.refl _ _), rfl⟩
              · have e2 : u 2 = .int .i64 0 := hd 2 (by decide)
                rw [e2]
                go_wp2
                exact ⟨_, by simp only [putAll, fillL, hu2, e2] <;> rfl, kept0 (Below.refl _ _), rfl⟩
              · have e3 : u 3 = .pointer (some ⟨w.heap.size + 1, 0, none⟩) := hd 3 (by decide)
                rw [e3]
                go_wp2
                exact ⟨_, by simp only [putAll, fillL, hu2, e3] <;> rfl, kept0 (Below.refl _ _), rfl⟩
              · have e4 : u 4 = .pointer (some ⟨w.heap.size + 1, 0, none⟩) := hd 4 (by decide)
                rw [e4]
                go_wp2
                exact ⟨_, by simp only [putAll, fillL, hu2, e4] <;> rfl, kept0 (Below.refl _ _), rfl⟩
              · go_wp2
                exact ⟨_, by simp only [putAll, fillL, hu2] <;> rfl, kept0 (Below.refl _ _), rfl⟩
              · have e6 : u 6 = .int .i64 0 := hd 6 (by decide)
                rw [e6]
                go_wp2
                exact ⟨_, by simp only [putAll, fillL, hu2, e6] <;> rfl, kept0 (Below.refl _ _), rfl⟩
              · have e7 : u 7 = .pointer (some ⟨w.heap.size + 1, 0, none⟩) := hd 7 (by decide)
                rw [e7]
                go_wp2
                exact ⟨_, by simp only [putAll, fillL, hu2, e7] <;> rfl, kept0 (Below.refl _ _), rfl⟩
              · have e8 : u 8 = .pointer (some ⟨w.heap.size + 1, 1, none⟩) := hd 8 (by decide)
                rw [e8]
                go_wp2
                exact ⟨_, by simp only [putAll, fillL, hu2, e8] <;> rfl, kept0 (Below.refl _ _), rfl⟩
              · have e5 : u 5 = .int .i64 (k0 : Int) := hd 5 (by decide)
                rw [e5]
                have e9 : u 9 = .int .i64 (k1 : Int) := hd 9 (by decide)
                rw [e9]
                go_wp2
                exact ⟨_, by simp only [putAll, fillL, hu2, e5, e9] <;> rfl, kept0 (Below.refl _ _), rfl⟩
              · go_wp2
                exact ⟨_, by simp only [putAll, fillL, hu2] <;> rfl, kept0 (Below.refl _ _), rfl⟩
              · have e11 : u 11 = .int .i64 0 := hd 11 (by decide)
                rw [e11]
                go_wp2
                exact ⟨_, by simp only [putAll, fillL, hu2, e11] <;> rfl, kept0 (Below.refl _ _), rfl⟩
              · go_wp2
                exact ⟨_, by simp only [putAll, fillL, hu2] <;> rfl, kept0 (Below.refl _ _), rfl⟩
              · go_wp2
                exact ⟨_, by simp only [putAll, fillL, hu2] <;> rfl, kept0 (Below.refl _ _), rfl⟩
              · have e1 : u 1 = .agg #[.int .i64 r.x, .int .i64 r.y, .int .i64 r.w, .slice a4 r.r.length k4] := hd 1 (by decide)
                rw [e1]
                have e10 : u 10 = .int .i64 (x : Int) := hd 10 (by decide)
                rw [e10]
                have e12 : u 12 = .int .i64 0 := hd 12 (by decide)
                rw [e12]
                have e13 : u 13 = .int .i64 (ca : Int) := hd 13 (by decide)
                rw [e13]
                have e14 : u 14 = .int .i64 (cc : Int) := hd 14 (by decide)
                rw [e14]
                go_wp2_with fail
                refine (hqN.out ▸ c_at _ r x 0 ca cc 2 _ (h.below hall) hyy.out (by omega) (by rw [hlen.out]; omega) (by rw [(hl4.out _ (by omega)).1]; omega) (by omega)).mono ?_
                rintro e wn ⟨rfl, hbn⟩
                go_wp2
                exact ⟨_, by simp only [putAll, fillL, hu2, e1, e10, e12, e13, e14] <;> rfl, kept0 hbn, rfl⟩
              · go_wp2
                exact ⟨_, by simp only [putAll, fillL, hu2] <;> rfl, kept0 (Below.refl _ _), rfl⟩
              · have e15 : u 15 = .int .i64 qN := hd 15 (by decide)
                rw [e15]
                have e16 : u 16 = .int .i64 on := hd 16 (by decide)
                rw [e16]
                go_wp2
                exact ⟨_, by simp only [putAll, fillL, hu2, e15, e16] <;> rfl, kept0 (Below.refl _ _), rfl⟩
              · go_wp2
                exact ⟨_, by simp only [putAll, fillL, hu2] <;> rfl, kept0 (Below.refl _ _), rfl⟩
              · go_wp2
                exact ⟨_, by simp only [putAll, fillL, hu2] <;> rfl, kept0 (Below.refl _ _), rfl⟩
              · have e19 : u 19 = .pointer (some ⟨wr.heap.size, 0, none⟩) := hd 19 (by decide)
                rw [e19]
                go_wp2
                exact ⟨_, by simp only [putAll, fillL, hu2, e19] <;> rfl, kept0 (Below.refl _ _), rfl⟩
              · go_wp2
                exact ⟨_, by simp only [putAll, fillL, hu2] <;> rfl, kept0 (Below.refl _ _), rfl⟩
              · have e21 : u 21 = .pointer (some ⟨wr.heap.size, 1, none⟩) := hd 21 (by decide)
                rw [e21]
                go_wp2
                exact ⟨_, by simp only [putAll, fillL, hu2, e21] <;> rfl, kept0 (Below.refl _ _), rfl⟩
              · have e20 : u 20 = .int .i64 (m : Int) := hd 20 (by decide)
                rw [e20]
                have e22 : u 22 = .int .i64 (n : Int) := hd 22 (by decide)
                rw [e22]
                go_wp2
                exact ⟨_, by simp only [putAll, fillL, hu2, e20, e22] <;> rfl, kept0 (Below.refl _ _), rfl⟩
              · go_wp2
                exact ⟨_, by simp only [putAll, fillL, hu2] <;> rfl, kept0 (Below.refl _ _), rfl⟩
              · go_wp2
                exact ⟨_, by simp only [putAll, fillL, hu2] <;> rfl, kept0 (Below.refl _ _), rfl⟩
              · go_wp2
                exact ⟨_, by simp only [putAll, fillL, hu2] <;> rfl, kept0 (Below.refl _ _), rfl⟩
              · have e18 : u 18 = .agg #[.int .i64 r.x, .int .i64 r.y, .int .i64 r.w, .slice a4 r.r.length k4] := hd 18 (by decide)
                rw [e18]
                have e23 : u 23 = .int .i64 (dd : Int) := hd 23 (by decide)
                rw [e23]
                have e24 : u 24 = .int .i64 0 := hd 24 (by decide)
                rw [e24]
                have e25 : u 25 = .int .i64 (ce : Int) := hd 25 (by decide)
                rw [e25]
                have e26 : u 26 = .int .i64 (cf : Int) := hd 26 (by decide)
                rw [e26]
                go_wp2_with fail
                refine (hqD.out ▸ c_at _ r dd 0 ce cf 2 _ (h.below hall) hyy.out (by omega) (by rw [hlen.out]; omega) (by rw [(hl4.out _ (by omega)).1]; omega) (by omega)).mono ?_
                rintro e wn ⟨rfl, hbn⟩
                go_wp2
                exact ⟨_, by simp only [putAll, fillL, hu2, e18, e23, e24, e25, e26] <;> rfl, kept0 hbn, rfl⟩
              · have e17 : u 17 = .int .i64 (qN * on) := hd 17 (by decide)
                rw [e17]
                have e27 : u 27 = .int .i64 qD := hd 27 (by decide)
                rw [e27]
                go_wp2
                exact ⟨_, by simp only [putAll, fillL, hu2, e17, e27] <;> rfl, kept0 (Below.refl _ _), rfl⟩
              · exact absurd rfl hi
              · exact absurd rfl hi2
              · simp at ho
            · intro uu g w7 hbw hu2 hR hAp
              have e28 : uu 28 = .int .i64 (qN * on * qD) := hR 28 (by decide) (by decide) (by decide)
              have e0 : uu 0 = .int .i64 sm := hR 0 (by decide) (by decide) (by decide)
              replace hu2 : uu 30 = .int .i64 sm := hu2
              have hB7 := hB5.trans (hbw.mono (by omega))
              clear hR hAp n0 n1 y0 y1 y2 y3 z0 z1 z2 z3 hbw hB5 halld
              simp only [putAll, fillL]
              rw [hu2, e28, e0]
              clear hu2 e28 e0
              go_wp2
              go_roundw
              case rel => first | exact ⟨q + 1, by omega, by go_num, by rw [hst2.out], hB7⟩ | ((repeat apply Exists.intro); exact ⟨⟨q + 1, by omega, rfl, by rw [hst2.out], hB7⟩, rfl⟩)
              case measure => simp [intOf]; omega
      · have hst2 : Hid (sumT F (q + 1) = sm) := Lib.hid (by rw [hst.out, if_neg (by have := hg; simp at this; omega)]; omega)
        clear y0 y1 y2 y3 z0 z1 z2 z3
        go_wp2
        go_roundw
        case rel => first | exact ⟨q + 1, by omega, by go_num, by rw [hst2.out], hB2⟩ | ((repeat apply Exists.intro); exact ⟨⟨q + 1, by omega, rfl, by rw [hst2.out], hB2⟩, rfl⟩)
        case measure => simp [intOf]; omega
    · obtain rfl : q = 32 := by omega
      have hall := hA2.trans (hB.mono (by omega))
      go_wp2
      go_ret
      exact ⟨by rw [hRes.out]; rfl, hall⟩

set_option maxRecDepth 100000 in
set_option maxHeartbeats 8000000 in
theorem c_chainRight1 (v : Value) (r : BoxD) (k : Nat) (w : World) (h : BoxR w v r) (hc : chainB r = true) (hk : k < 16) :
    Calls Try.prog 79 #[v, .int .i64 k, .int .i64 1] w fun e w' => e = .returned (.int .i64 (rightV r k 1)) ∧ Below w.heap.size w w' := by
  obtain ⟨v4, rfl, hr⟩ := id h
  obtain ⟨a4, k4, rfl, l4⟩ := hr.out
  have hA := (Below.refl w.heap.size w).alloc (Nat.le_refl _) (.cells #[.int .i64 r.x, .int .i64 r.y, .int .i64 r.w, .slice a4 r.r.length k4] 50)
  have pB : (w.alloc (.cells #[.int .i64 r.x, .int .i64 r.y, .int .i64 r.w, .slice a4 r.r.length k4] 50)).heap[w.heap.size]? = some (.cells #[.int .i64 r.x, .int .i64 r.y, .int .i64 r.w, .slice a4 r.r.length k4] 50 (0, 0)) := heap_alloc_at rfl
  have hp : pairB r = true := by unfold chainB at hc; simp only [Bool.and_eq_true] at hc; exact hc.1
  obtain ⟨hbb, hxx, hyy, hlen⟩ := pairB_facts hp
  have hl4 := fun q (hq : q < 4) => (boxB_row hbb (show q < r.r.length by omega))
  have hcl := fun q (hq : q < 4) => chain_cell hc hq
  have hww : 0 ≤ r.w ∧ r.w ≤ 100 := by
    refine ⟨by have := (boxB_size hbb).2.2.1.1; omega, ?_⟩
    unfold chainB at hc
    simp only [Bool.and_eq_true, decide_eq_true_eq] at hc
    exact hc.2.2
  clear hp
  replace hbb := Lib.hid hbb
  replace hlen := Lib.hid hlen
  replace hxx := Lib.hid hxx
  replace hyy := Lib.hid hyy
  replace hc := Lib.hid hc
  replace hl4 := Lib.hid hl4
  replace hcl := Lib.hid hcl
  replace hww := Lib.hid hww
  obtain ⟨k0, hk0⟩ : ∃ s, s = bN 0 k := ⟨_, rfl⟩
  obtain ⟨k1, hk1⟩ : ∃ s, s = bN 1 k := ⟨_, rfl⟩
  obtain ⟨k2, hk2⟩ : ∃ s, s = bN 2 k := ⟨_, rfl⟩
  obtain ⟨k3, hk3⟩ : ∃ s, s = bN 3 k := ⟨_, rfl⟩
  have l0 : k0 ≤ 1 := hk0 ▸ bN_le _ _
  have l1 : k1 ≤ 1 := hk1 ▸ bN_le _ _
  have l2 : k2 ≤ 1 := hk2 ▸ bN_le _ _
  have l3 : k3 ≤ 1 := hk3 ▸ bN_le _ _
  have b0 : bits .and .i64 (k : Int) 1 = (k0 : Int) := by rw [hk0]; have := bandN k (2 ^ 0) 0 (by omega) rfl; simpa using this
  have b1 : bits .and .i64 ((k : Int) / 2) 1 = (k1 : Int) := by rw [hk1]; have := bandN k (2 ^ 1) 1 (by omega) rfl; simpa using this
  have b2 : bits .and .i64 ((k : Int) / 4) 1 = (k2 : Int) := by rw [hk2]; have := bandN k (2 ^ 2) 2 (by omega) rfl; simpa using this
  have b3 : bits .and .i64 ((k : Int) / 8) 1 = (k3 : Int) := by rw [hk3]; have := bandN k (2 ^ 3) 3 (by omega) rfl; simpa using this
  have lx := bx_le k0 k1
  have ly := bx_le k2 k3
  have xst := bits_bx k0 k1 (by omega) (by omega)
  have xuv := bits_bx k2 k3 (by omega) (by omega)
  obtain ⟨F, hF⟩ : ∃ F, F = fI r 0 k1 k0 k2 (bx k0 k1 * 2 + 1) (bx k2 k3 * 2 + 0) := ⟨_, rfl⟩
  have hRes : Hid (rightV r k 1 = sumT F 32) := Lib.hid (by rw [hF, sum_fI, hk0, hk1, hk2, hk3]; rfl)
  obtain ⟨x, hx⟩ : ∃ x, x = bx k0 k1 := ⟨_, rfl⟩
  obtain ⟨y, hy⟩ : ∃ y, y = bx k2 k3 := ⟨_, rfl⟩
  rw [← hx] at lx xst hF
  rw [← hy] at ly xuv hF
  have hFb := sumT_bound (F := F) (fun q => by rw [hF]; exact tT_bound hc.out (by decide) (by omega) (by omega))
  replace hk0 := Lib.hid hk0
  replace hk1 := Lib.hid hk1
  replace hk2 := Lib.hid hk2
  replace hk3 := Lib.hid hk3
  replace hF := Lib.hid hF
  replace hFb := Lib.hid hFb
  replace hx := Lib.hid hx
  replace hy := Lib.hid hy
  obtain ⟨wp, hwp⟩ : ∃ q, q = (w.alloc (.cells #[.int .i64 r.x, .int .i64 r.y, .int .i64 r.w, .slice a4 r.r.length k4] 50)).alloc (.cells #[.int .i64 k0, .int .i64 k1, .int .i64 k2, .int .i64 k3] 75) := ⟨_, rfl⟩
  have pP : wp.heap[w.heap.size + 1]? = some (.cells #[.int .i64 k0, .int .i64 k1, .int .i64 k2, .int .i64 k3] 75 (0, 0)) := by rw [hwp]; exact heap_alloc_at (by simp)
  have hAP : Below (w.heap.size + 1) (w.alloc (.cells #[.int .i64 r.x, .int .i64 r.y, .int .i64 r.w, .slice a4 r.r.length k4] 50)) wp := by rw [hwp]; exact (Below.refl _ _).alloc (by simp) _
  replace pB := (hAP.block _ (by omega)).trans pB
  have hA2 := hA.trans (hAP.mono (by omega))
  have hszp : wp.heap.size = w.heap.size + 2 := by rw [hwp]; simp
  replace hwp := Lib.hid hwp
  clear hA hAP
  go_enter Try.func79, Try.ntmps79
  go_wp2_with fail
  rw [← hwp.out]
  go_loopw [10, 39] (fun sm a wr => ∃ q : Nat, q ≤ 32 ∧ a = .int .i64 q ∧ sm = .int .i64 (sumT F q) ∧ Below (w.heap.size + 2) wp wr) (fun _ a _ => 32 - (intOf a).toNat)
  case atStart => exact ⟨0, by omega, rfl, rfl, Below.refl _ _⟩
  case round =>
    obtain ⟨q, hq, rfl, rfl, hB⟩ := hrel
    have hbq := hFb.out q
    by_cases hlq : q < 32
    · have hdq : decide ((q : Int) < 32) = true := by simp; omega
      obtain ⟨ca, hca⟩ : ∃ z, z = bN 0 q := ⟨_, rfl⟩
      obtain ⟨cc, hcc⟩ : ∃ z, z = bN 1 q := ⟨_, rfl⟩
      obtain ⟨cd, hcd⟩ : ∃ z, z = bN 2 q := ⟨_, rfl⟩
      obtain ⟨ce, hce⟩ : ∃ z, z = bN 3 q := ⟨_, rfl⟩
      obtain ⟨cf, hcf⟩ : ∃ z, z = bN 4 q := ⟨_, rfl⟩
      have q0 : bits .and .i64 (q : Int) 1 = (ca : Int) := by rw [hca]; have := bandN q (2 ^ 0) 0 (by omega) rfl; simpa using this
      have q1 : bits .and .i64 ((q : Int) / 2) 1 = (cc : Int) := by rw [hcc]; have := bandN q (2 ^ 1) 1 (by omega) rfl; simpa using this
      have q2 : bits .and .i64 ((q : Int) / 4) 1 = (cd : Int) := by rw [hcd]; have := bandN q (2 ^ 2) 2 (by omega) rfl; simpa using this
      have q3 : bits .and .i64 ((q : Int) / 8) 1 = (ce : Int) := by rw [hce]; have := bandN q (2 ^ 3) 3 (by omega) rfl; simpa using this
      have q4 : bits .and .i64 ((q : Int) / 16) 1 = (cf : Int) := by rw [hcf]; have := bandN q (2 ^ 4) 4 (by omega) rfl; simpa using this
      have la : ca ≤ 1 := hca ▸ bN_le _ _
      have lc : cc ≤ 1 := hcc ▸ bN_le _ _
      have ld : cd ≤ 1 := hcd ▸ bN_le _ _
      have le : ce ≤ 1 := hce ▸ bN_le _ _
      have lf : cf ≤ 1 := hcf ▸ bN_le _ _
      obtain ⟨m, hm⟩ : ∃ q, q = bx k0 ca := ⟨_, rfl⟩
      obtain ⟨n, hn⟩ : ∃ q, q = bx k2 cd := ⟨_, rfl⟩
      obtain ⟨dd, hdd⟩ : ∃ q, q = bx m n := ⟨_, rfl⟩
      have lm : m ≤ 1 := hm ▸ bx_le _ _
      have ln : n ≤ 1 := hn ▸ bx_le _ _
      have ldd : dd ≤ 1 := hdd ▸ bx_le _ _
      have xm : bits .xor .i64 (k0 : Int) (ca : Int) = (m : Int) := by rw [hm]; exact bits_bx k0 ca (by omega) la
      have xn : bits .xor .i64 (k2 : Int) (cd : Int) = (n : Int) := by rw [hn]; exact bits_bx k2 cd (by omega) ld
      have xd : bits .xor .i64 (m : Int) (n : Int) = (dd : Int) := by rw [hdd]; exact bits_bx m n (by omega) (by omega)
      obtain ⟨g1, hg1⟩ : ∃ q, q = bx m ce := ⟨_, rfl⟩
      obtain ⟨g2, hg2⟩ : ∃ q, q = bx g1 cf := ⟨_, rfl⟩
      obtain ⟨g3, hg3⟩ : ∃ q, q = bx g2 cc := ⟨_, rfl⟩
      have lg1 : g1 ≤ 1 := hg1 ▸ bx_le _ _
      have lg2 : g2 ≤ 1 := hg2 ▸ bx_le _ _
      have xg1 : bits .xor .i64 (m : Int) (ce : Int) = (g1 : Int) := by rw [hg1]; exact bits_bx _ ce (by omega) le
      have xg2 : bits .xor .i64 (g1 : Int) (cf : Int) = (g2 : Int) := by rw [hg2]; exact bits_bx g1 cf lg1 lf
      have xg3 : bits .xor .i64 (g2 : Int) (cc : Int) = (g3 : Int) := by rw [hg3]; exact bits_bx g2 cc lg2 lc
      obtain ⟨sm, hsm⟩ : ∃ z, z = sumT F q := ⟨_, rfl⟩
      obtain ⟨qN, hqN⟩ : ∃ q, q = cellB r (x * 2 + 1) (2 * ca + cc) := ⟨_, rfl⟩
      obtain ⟨on, hon⟩ : ∃ q, q = cellB r (y * 2 + 0) (2 * cd) + cellB r (y * 2 + 0) (2 * cd + 1) := ⟨_, rfl⟩
      obtain ⟨qD, hqD⟩ : ∃ q, q = cellB r (dd * 2 + 0) (2 * ce + cf) := ⟨_, rfl⟩
      have hdm : dd = bx m n := by rw [hdd] <;> (unfold bx; omega)
      have hT : F q = if g3 = k1 then qN * on * qD else 0 := by
        rw [hF.out]
        unfold fI tT
        rw [show q % 2 = ca by rw [hca]; unfold bN; simp, show q / 2 % 2 = cc by rw [hcc]; unfold bN; simp, show q / 4 % 2 = cd by rw [hcd]; unfold bN; simp, show q / 8 % 2 = ce by rw [hce]; unfold bN; simp, show q / 16 = cf by rw [hcf]; unfold bN; simp <;> omega]
        rw [show (2 * ca + cc) / 2 = ca by omega, show (2 * ca + cc) % 2 = cc by omega, show (2 * ce + cf) / 2 = ce by omega, show (2 * ce + cf) % 2 = cf by omega]
        rw [← hm, ← hn, ← hdm]
        rw [hg3, hg2, hg1, hqN, hon, hqD]
        rfl
      have hst : sumT F (q + 1) = sm + F q := by rw [hsm]; rfl
      rw [hT] at hst
      have bN1 : 0 ≤ qN ∧ qN ≤ 100 := hqN ▸ hcl.out _ (by omega) _
      have bO0 : 0 ≤ on ∧ on ≤ 200 := by
        have u1 := hcl.out (y * 2 + 0) (by omega) (2 * cd)
        have u2 := hcl.out (y * 2 + 0) (by omega) (2 * cd + 1)
        omega
      have bD : 0 ≤ qD ∧ qD ≤ 100 := hqD ▸ hcl.out _ (by omega) _
      have bP1 := mul_bound bN1 bO0
      have bP2 := mul_bound bP1 bD
      rw [← hsm] at hbq ⊢
      clear hT hca hcc hcd hce hcf hg1 hg2 hg3 hdd hdm hm hn
      replace hst := Lib.hid hst
      replace hsm := Lib.hid hsm
      replace hqN := Lib.hid hqN
      replace hon := Lib.hid hon
      replace hqD := Lib.hid hqD
      have hszr := hB.size
      have hallr := hA2.trans (hB.mono (by omega))
      obtain ⟨wc, hwc⟩ : ∃ z, z = wr.alloc (.cells #[.int .i64 0, .int .i64 0] 48) := ⟨_, rfl⟩
      have hszc : wc.heap.size = wr.heap.size + 1 := by rw [hwc]; simp
      have pM : wc.heap[wr.heap.size]? = some (.cells #[.int .i64 0, .int .i64 0] 48 (0, 0)) := by rw [hwc]; exact heap_alloc_at rfl
      have hC : Below wr.heap.size wr wc := by rw [hwc]; exact (Below.refl _ _).alloc (by simp) _
      replace hwc := Lib.hid hwc
      have pP2 := ((hC.block _ (by omega)).trans (hB.block _ (by omega))).trans pP
      go_wp2_with fail
      rw [← hwc.out]
      obtain ⟨⟨y0, y1, y2, y3⟩, -⟩ := blk4 pP2
      obtain ⟨⟨n0, n1⟩, n2, n3⟩ := blk2m pM
      have pM2 := block_set (j := 1) (v := .int .i64 n) (block_set (j := 0) (v := .int .i64 m) pM)
      clear pM pP2
      go_region
      obtain ⟨wd, hwd⟩ : ∃ z, z = ((wc.setCell ⟨wr.heap.size, 0, none⟩ (.int .i64 m)).setCell ⟨wr.heap.size, 1, none⟩ (.int .i64 n)).drew := ⟨_, rfl⟩
      have hD : Below (w.heap.size + 2) wr wd := by rw [hwd]; exact (((hC.mono (by omega)).setCell (by simp; omega) _).setCell (by simp; omega) _).drew
      have pM3 : wd.heap[wr.heap.size]? = some (.cells #[.int .i64 m, .int .i64 n] 48 (0, 0)) := by rw [hwd]; exact pM2
      have hszd : wd.heap.size = wr.heap.size + 1 := by rw [hwd]; simp [hszc]
      rw [← hwd]
      clear hwd pM2 n0 n1 n2 n3 y0 y1 y2 y3 hC hwc hszc wc
      have hB2 := hB.trans hD
      have halld := hA2.trans (hB2.mono (by omega))
      obtain ⟨⟨n0, n1⟩, -⟩ := blk2m pM3
      obtain ⟨⟨y0, y1, y2, y3⟩, -⟩ := blk4 ((hB2.block _ (by omega)).trans pP)
      obtain ⟨⟨z0, z1, z2, z3⟩, -⟩ := blk4 ((hB2.block _ (by omega)).trans pB)
      clear hD hB
      cases hg : ((g3 : Int) != (k1 : Int))
      · have hst2 : Hid (sumT F (q + 1) = sm + qN * on * qD) := Lib.hid (by rw [hst.out, if_pos (by have := hg; simp at this; omega)])
        have hw1 := hww.out
        obtain ⟨o1, ho1⟩ : ∃ z, z = one0 r (y * 2 + 0) := ⟨_, rfl⟩
        have bo1 : 0 ≤ o1 ∧ o1 ≤ 200 := by
          have u1 := hcl.out (y * 2 + 0) (by omega) 2
          have u2 := hcl.out (y * 2 + 0) (by omega) 3
          unfold one0 at ho1
          omega
        have hsu : Hid (r.w - o1 = cellB r (y * 2 + 0) 0 + cellB r (y * 2 + 0) 1) := Lib.hid (by
          have u1 := hl4.out (y * 2 + 0) (by omega)
          have u2 := sum4 _ u1.1
          rw [u1.2.2] at u2
          unfold one0 cellB at ho1
          unfold cellB
          omega)
        replace ho1 := Lib.hid ho1
        go_wp2_with fail
        clear b0 b1 b2 b3 q0 q1 q2 q3 q4 xm xn xg1 xg2 xg3 hg
        refine wp_region_rk (by kernel_rfl) [none, none, none, none, none, none, none, none, none, none, none, none, none, none, none, none, none, none, none, some 11, none, none, none, none, none, none, none, none, none, none, none, none, none, none, none, none, none, none, none, none, none, none, none, none, none, none, none, none, none, none, none, none, none, none, none, none, none, none, none, none, none, none, none, none, none, none, none, none, none, none, none, none, none, none, none, none, none, none, none, none, none, none, none, none, none, none, none, some 0, some 1, some 2, some 3, some 4, some 5, some 6, some 7, some 8, some 9, some 10] 11 (by kernel_rfl) (by kernel_rfl) (by kernel_rfl) _ rfl w.heap.size [rkV (.agg #[.int .i64 r.x, .int .i64 r.y, .int .i64 r.w, .slice a4 r.r.length k4]), rkV (.int .i64 1), rkV (.pointer (some ⟨w.heap.size + 1, 2, none⟩)), rkV (.pointer (some ⟨w.heap.size + 1, 2, none⟩)), rkV (.int .i64 (k2 : Int)), rkV (.int .i64 1), rkV (.pointer (some ⟨w.heap.size + 1, 2, none⟩)), rkV (.pointer (some ⟨w.heap.size + 1, 3, none⟩)), rkV (.int .i64 (k3 : Int)), rkV (.int .i64 (y : Int)), rkV (.int .i64 o1)] _ rfl (by kernel_rfl) (by simp) ?_ ?_
        · intro i o ho hi u g ww hbw hd
          have hall : Below w.heap.size w ww := halld.trans (hbw.mono (by omega))
          have hlow : w.heap.size ≤ ww.heap.size := hall.size
          obtain ⟨hcl, hfr⟩ := bcell hbw
          have y_y0 := (hcl _ _ (by omega)).trans y0
          have y_y1 := (hcl _ _ (by omega)).trans y1
          have y_y2 := (hcl _ _ (by omega)).trans y2
          have y_y3 := (hcl _ _ (by omega)).trans y3
          have y_z0 := (hcl _ _ (by omega)).trans z0
          have y_z1 := (hcl _ _ (by omega)).trans z1
          have y_z2 := (hcl _ _ (by omega)).trans z2
          have y_z3 := (hcl _ _ (by omega)).trans z3
          clear hcl hfr
          rcases i with _ | _ | _ | _ | _ | _ | _ | _ | _ | _ | _ | _ | i
          all_goals try obtain rfl := Option.some.inj ho
          all_goals try simp only [putAll, fillL]
          · go_wp2
            exact ⟨_, rfl, kept0 (Below.refl _ _), rfl⟩
          · go_wp2
            exact ⟨_, rfl, kept0 (Below.refl _ _), rfl⟩
          · have e1 : u 1 = .int .i64 1 := hd 1 (by decide)
            rw [e1]
            go_wp2
            exact ⟨_, by simp only [putAll, fillL, e1] <;> rfl, kept0 (Below.refl _ _), rfl⟩
          · have e2 : u 2 = .pointer (some ⟨w.heap.size + 1, 2, none⟩) := hd 2 (by decide)
            rw [e2]
            go_wp2
            exact ⟨_, by simp only [putAll, fillL, e2] <;> rfl, kept0 (Below.refl _ _), rfl⟩
          · have e3 : u 3 = .pointer (some ⟨w.heap.size + 1, 2, none⟩) := hd 3 (by decide)
            rw [e3]
            go_wp2
            exact ⟨_, by simp only [putAll, fillL, e3] <;> rfl, kept0 (Below.refl _ _), rfl⟩
          · go_wp2
            exact ⟨_, rfl, kept0 (Below.refl _ _), rfl⟩
          · have e5 : u 5 = .int .i64 1 := hd 5 (by decide)
            rw [e5]
            go_wp2
            exact ⟨_, by simp only [putAll, fillL, e5] <;> rfl, kept0 (Below.refl _ _), rfl⟩
          · have e6 : u 6 = .pointer (some ⟨w.heap.size + 1, 2, none⟩) := hd 6 (by decide)
            rw [e6]
            go_wp2
            exact ⟨_, by simp only [putAll, fillL, e6] <;> rfl, kept0 (Below.refl _ _), rfl⟩
          · have e7 : u 7 = .pointer (some ⟨w.heap.size + 1, 3, none⟩) := hd 7 (by decide)
            rw [e7]
            go_wp2
            exact ⟨_, by simp only [putAll, fillL, e7] <;> rfl, kept0 (Below.refl _ _), rfl⟩
          · have e4 : u 4 = .int .i64 (k2 : Int) := hd 4 (by decide)
            rw [e4]
            have e8 : u 8 = .int .i64 (k3 : Int) := hd 8 (by decide)
            rw [e8]
            go_wp2
            exact ⟨_, by simp only [putAll, fillL, e4, e8] <;> rfl, kept0 (Below.refl _ _), rfl⟩
          · have e0 : u 0 = .agg #[.int .i64 r.x, .int .i64 r.y, .int .i64 r.w, .slice a4 r.r.length k4] := hd 0 (by decide)
            rw [e0]
            have e9 : u 9 = .int .i64 (y : Int) := hd 9 (by decide)
            rw [e9]
            go_wp2_with fail
            refine (ho1.out ▸ c_ones0 _ r y 0 2 _ (h.below hall) hyy.out (by omega) hbb.out (by rw [hlen.out]; omega)).mono ?_
            rintro e wn ⟨rfl, hbn⟩
            go_wp2
            exact ⟨_, by simp only [putAll, fillL, e0, e9] <;> rfl, kept0 hbn, rfl⟩
          · exact absurd rfl hi
          · simp at ho
        · intro u g w5 hbw hR hAp
          have e10 : u 10 = .int .i64 o1 := hR 10 (by decide) (by decide)
          have hB5 := hB2.trans (hbw.mono (by omega))
          have pM5 := (hbw.block _ (by omega)).trans pM3
          have hsz5 := hbw.size
          clear hR hAp n0 n1 y0 y1 y2 y3 z0 z1 z2 z3 hB2 halld hbw
          simp only [putAll, fillL]
          rw [e10]
          clear e10
          have halld := hA2.trans (hB5.mono (by omega))
          obtain ⟨⟨n0, n1⟩, -⟩ := blk2m pM5
          obtain ⟨⟨y0, y1, y2, y3⟩, -⟩ := blk4 ((hB5.block _ (by omega)).trans pP)
          obtain ⟨⟨z0, z1, z2, z3⟩, -⟩ := blk4 ((hB5.block _ (by omega)).trans pB)
          cases hz : ((cd : Int) == 0)
          · have hE : o1 = on := by
              have : cd = 1 := by have := hz; simp at this; omega
              rw [hon.out, ho1.out, this]
              rfl
            go_wp2_with fail
            try rw [hE]
            clear hE hz xuv
            refine wp_region_rkt (by kernel_rfl) [none, none, none, none, none, none, none, none, none, none, some 30, none, none, none, none, none, none, none, none, none, none, none, none, none, none, none, none, none, none, none, none, none, none, none, none, none, none, none, none, none, none, none, none, none, none, none, none, none, none, none, none, none, none, none, none, none, none, none, none, none, none, none, none, none, none, none, none, none, none, none, none, none, none, none, none, none, none, none, none, none, none, none, none, none, none, none, none, none, none, none, none, none, none, none, none, none, none, none, none, none, none, none, none, none, some 0, some 1, some 2, some 3, some 4, some 5, some 6, some 7, some 8, some 9, some 10, some 11, some 12, some 13, some 14, some 15, some 16, some 17, some 18, some 19, some 20, some 21, some 22, some 23, some 24, some 25, some 26, some 27, some 28, some 29] 29 30 (by kernel_rfl) (by kernel_rfl) (by kernel_rfl) _ _ rfl rfl 10 rfl w.heap.size [rkV (.int .i64 sm), rkV (.agg #[.int .i64 r.x, .int .i64 r.y, .int .i64 r.w, .slice a4 r.r.length k4]), rkV (.int .i64 0), rkV (.pointer (some ⟨w.heap.size + 1, 0, none⟩)), rkV (.pointer (some ⟨w.heap.size + 1, 0, none⟩)), rkV (.int .i64 (k0 : Int)), rkV (.int .i64 0), rkV (.pointer (some ⟨w.heap.size + 1, 0, none⟩)), rkV (.pointer (some ⟨w.heap.size + 1, 1, none⟩)), rkV (.int .i64 (k1 : Int)), rkV (.int .i64 (x : Int)), rkV (.int .i64 1), rkV (.int .i64 1), rkV (.int .i64 (ca : Int)), rkV (.int .i64 (cc : Int)), rkV (.int .i64 qN), rkV (.int .i64 on), rkV (.int .i64 (qN * on)), rkV (.agg #[.int .i64 r.x, .int .i64 r.y, .int .i64 r.w, .slice a4 r.r.length k4]), rkV (.pointer (some ⟨wr.heap.size, 0, none⟩)), rkV (.int .i64 (m : Int)), rkV (.pointer (some ⟨wr.heap.size, 1, none⟩)), rkV (.int .i64 (n : Int)), rkV (.int .i64 (dd : Int)), rkV (.int .i64 0), rkV (.int .i64 (ce : Int)), rkV (.int .i64 (cf : Int)), rkV (.int .i64 qD), rkV (.int .i64 (qN * on * qD))] _ rfl (by kernel_rfl) (by simp) ?_ ?_
            · intro i o ho hi hi2 u g ww hbw hu2 hd
              replace hu2 : u 30 = .int .i64 sm := hu2
              have hall : Below w.heap.size w ww := halld.trans (hbw.mono (by omega))
              have hlow : w.heap.size ≤ ww.heap.size := hall.size
              obtain ⟨hcl, hfr⟩ := bcell hbw
              have y_n0 := (hcl _ _ (by omega)).trans n0
              have y_n1 := (hcl _ _ (by omega)).trans n1
              have y_y0 := (hcl _ _ (by omega)).trans y0
              have y_y1 := (hcl _ _ (by omega)).trans y1
              have y_y2 := (hcl _ _ (by omega)).trans y2
              have y_y3 := (hcl _ _ (by omega)).trans y3
              have y_z0 := (hcl _ _ (by omega)).trans z0
              have y_z1 := (hcl _ _ (by omega)).trans z1
              have y_z2 := (hcl _ _ (by omega)).trans z2
              have y_z3 := (hcl _ _ (by omega)).trans z3
              clear hcl hfr
              rcases i with _ | _ | _ | _ | _ | _ | _ | _ | _ | _ | _ | _ | _ | _ | _ | _ | _ | _ | _ | _ | _ | _ | _ | _ | _ | _ | _ | _ | _ | _ | _ | i
              all_goals try obtain rfl := Option.some.inj ho
              all_goals try simp only [putAll, fillL]
              · rw [hu2]
                go_wp2
                exact ⟨_, by simp only [putAll, fillL, hu2] <;> rfl, kept0 (Below.refl _ _), rfl⟩
              · go_wp2
                exact ⟨_, by simp only [putAll, fillL, hu2] <;> rfl, kept0 (Below.refl _ _), rfl⟩
              · go_wp2
                exact ⟨_, by simp only [putAll, fillL, hu2] <;> rfl, kept0 (Below.refl _ _), rfl⟩
              · have e2 : u 2 = .int .i64 0 := hd 2 (by decide)
                rw [e2]
                go_wp2
                exact ⟨_, by simp only [putAll, fillL, hu2, e2] <;> rfl, kept0 (Below.refl _ _), rfl⟩
              · have e3 : u 3 = .pointer (some ⟨w.heap.size + 1, 0, none⟩) := hd 3 (by decide)
                rw [e3]
                go_wp2
                exact ⟨_, by simp only [putAll, fillL, hu2, e3] <;> rfl, kept0 (Below.refl _ _), rfl⟩
              · have e4 : u 4 = .pointer (some ⟨w.heap.size + 1, 0, none⟩) := hd 4 (by decide)
                rw [e4]
                go_wp2
                exact ⟨_, by simp only [putAll, fillL, hu2, e4] <;> rfl, kept0 (Below.refl _ _), rfl⟩
              · go_wp2
                exact ⟨_, by simp only [putAll, fillL, hu2] <;> rfl, kept0 (Below.refl _ _), rfl⟩
              · have e6 : u 6 = .int .i64 0 := hd 6 (by decide)
                rw [e6]
                go_wp2
                exact ⟨_, by simp only [putAll, fillL, hu2, e6] <;> rfl, kept0 (Below.refl _ _), rfl⟩
              · have e7 : u 7 = .pointer (some ⟨w.heap.size + 1, 0, none⟩) := hd 7 (by decide)
                rw [e7]
                go_wp2
                exact ⟨_, by simp only [putAll, fillL, hu2, e7] <;> rfl, kept0 (Below.refl _ _), rfl⟩
              · have e8 : u 8 = .pointer (some ⟨w.heap.size + 1, 1, none⟩) := hd 8 (by decide)
                rw [e8]
                go_wp2
                exact ⟨_, by simp only [putAll, fillL, hu2, e8] <;> rfl, kept0 (Below.refl _ _), rfl⟩
              · have e5 : u 5 = .int .i64 (k0 : Int) := hd 5 (by decide)
                rw [e5]
                have e9 : u 9 = .int .i64 (k1 : Int) := hd 9 (by decide)
                rw [e9]
                go_wp2
                exact ⟨_, by simp only [putAll, fillL, hu2, e5, e9] <;> rfl, kept0 (Below.refl _ _), rfl⟩
              · go_wp2
                exact ⟨_, by simp only [putAll, fillL, hu2] <;> rfl, kept0 (Below.refl _ _), rfl⟩
              · have e11 : u 11 = .int .i64 1 := hd 11 (by decide)
                rw [e11]
                go_wp2
                exact ⟨_, by simp only [putAll, fillL, hu2, e11] <;> rfl, kept0 (Below.refl _ _), rfl⟩
              · go_wp2
                exact ⟨_, by simp only [putAll, fillL, hu2] <;> rfl, kept0 (Below.refl _ _), rfl⟩
              · go_wp2
                exact ⟨_, by simp only [putAll, fillL, hu2] <;> rfl, kept0 (Below.refl _ _), rfl⟩
              · have e1 : u 1 = .agg #[.int .i64 r.x, .int .i64 r.y, .int .i64 r.w, .slice a4 r.r.length k4] := hd 1 (by decide)
                rw [e1]
                have e10 : u 10 = .int .i64 (x : Int) := hd 10 (by decide)
                rw [e10]
                have e12 : u 12 = .int .i64 1 := hd 12 (by decide)
                rw [e12]
                have e13 : u 13 = .int .i64 (ca : Int) := hd 13 (by decide)
                rw [e13]
                have e14 : u 14 = .int .i64 (cc : Int) := hd 14 (by decide)
                rw [e14]
                go_wp2_with fail
                refine (hqN.out ▸ c_at _ r x 1 ca cc 2 _ (h.below hall) hyy.out (by omega) (by rw [hlen.out]; omega) (by rw [(hl4.out _ (by omega)).1]; omega) (by omega)).mono ?_
                rintro e wn ⟨rfl, hbn⟩
                go_wp2
                exact ⟨_, by simp only [putAll, fillL, hu2, e1, e10, e12, e13, e14] <;> rfl, kept0 hbn, rfl⟩
              · go_wp2
                exact ⟨_, by simp only [putAll, fillL, hu2] <;> rfl, kept0 (Below.refl _ _), rfl⟩
              · have e15 : u 15 = .int .i64 qN := hd 15 (by decide)
                rw [e15]
                have e16 : u 16 = .int .i64 on := hd 16 (by decide)
                rw [e16]
                go_wp2
                exact ⟨_, by simp only [putAll, fillL, hu2, e15, e16] <;> rfl, kept0 (Below.refl _ _), rfl⟩
              · go_wp2
                exact ⟨_, by simp only [putAll, fillL, hu2] <;> rfl, kept0 (Below.refl _ _), rfl⟩
              · go_wp2
                exact ⟨_, by simp only [putAll, fillL, hu2] <;> rfl, kept0 (Below.refl _ _), rfl⟩
              · have e19 : u 19 = .pointer (some ⟨wr.heap.size, 0, none⟩) := hd 19 (by decide)
                rw [e19]
                go_wp2
                exact ⟨_, by simp only [putAll, fillL, hu2, e19] <;> rfl, kept0 (Below.refl _ _), rfl⟩
              · go_wp2
                exact ⟨_, by simp only [putAll, fillL, hu2] <;> rfl, kept0 (Below.refl _ _), rfl⟩
              · have e21 : u 21 = .pointer (some ⟨wr.heap.size, 1, none⟩) := hd 21 (by decide)
                rw [e21]
                go_wp2
                exact ⟨_, by simp only [putAll, fillL, hu2, e21] <;> rfl, kept0 (Below.refl _ _), rfl⟩
              · have e20 : u 20 = .int .i64 (m : Int) := hd 20 (by decide)
                rw [e20]
                have e22 : u 22 = .int .i64 (n : Int) := hd 22 (by decide)
                rw [e22]
                go_wp2
                exact ⟨_, by simp only [putAll, fillL, hu2, e20, e22] <;> rfl, kept0 (Below.refl _ _), rfl⟩
              · go_wp2
                exact ⟨_, by simp only [putAll, fillL, hu2] <;> rfl, kept0 (Below.refl _ _), rfl⟩
              · go_wp2
                exact ⟨_, by simp only [putAll, fillL, hu2] <;> rfl, kept0 (Below.refl _ _), rfl⟩
              · go_wp2
                exact ⟨_, by simp only [putAll, fillL, hu2] <;> rfl, kept0 (Below.refl _ _), rfl⟩
              · have e18 : u 18 = .agg #[.int .i64 r.x, .int .i64 r.y, .int .i64 r.w, .slice a4 r.r.length k4] := hd 18 (by decide)
                rw [e18]
                have e23 : u 23 = .int .i64 (dd : Int) := hd 23 (by decide)
                rw [e23]
                have e24 : u 24 = .int .i64 0 := hd 24 (by decide)
                rw [e24]
                have e25 : u 25 = .int .i64 (ce : Int) := hd 25 (by decide)
                rw [e25]
                have e26 : u 26 = .int .i64 (cf : Int) := hd 26 (by decide)
                rw [e26]
                go_wp2_with fail
                refine (hqD.out ▸ c_at _ r dd 0 ce cf 2 _ (h.below hall) hyy.out (by omega) (by rw [hlen.out]; omega) (by rw [(hl4.out _ (by omega)).1]; omega) (by omega)).mono ?_
                rintro e wn ⟨rfl, hbn⟩
                go_wp2
                exact ⟨_, by simp only [putAll, fillL, hu2, e18, e23, e24, e25, e26] <;> rfl, kept0 hbn, rfl⟩
              · have e17 : u 17 = .int .i64 (qN * on) := hd 17 (by decide)
                rw [e17]
                have e27 : u 27 = .int .i64 qD := hd 27 (by decide)
                rw [e27]
                go_wp2
                exact ⟨_, by simp only [putAll, fillL, hu2, e17, e27] <;> rfl, kept0 (Below.refl _ _), rfl⟩
              · exact absurd rfl hi
              · exact absurd rfl hi2
              · simp at ho
            · intro uu g w7 hbw hu2 hR hAp
              have e28 : uu 28 = .int .i64 (qN * on * qD) := hR 28 (by decide) (by decide) (by decide)
              have e0 : uu 0 = .int .i64 sm := hR 0 (by decide) (by decide) (by decide)
              replace hu2 : uu 30 = .int .i64 sm := hu2
              have hB7 := hB5.trans (hbw.mono (by omega))
              clear hR hAp n0 n1 y0 y1 y2 y3 z0 z1 z2 z3 hbw hB5 halld
              simp only [putAll, fillL]
              rw [hu2, e28, e0]
              clear hu2 e28 e0
              go_wp2
              go_roundw
              case rel => first | exact ⟨q + 1, by omega, by go_num, by rw [hst2.out], hB7⟩ | ((repeat apply Exists.intro); exact ⟨⟨q + 1, by omega, rfl, by rw [hst2.out], hB7⟩, rfl⟩)
              case measure => simp [intOf]; omega
          · have hE : r.w - o1 = on := by
              have : cd = 0 := by have := hz; simp at this; omega
              rw [hon.out, hsu.out, this]
            go_wp2_with fail
            try rw [hE]
            clear hE hz xuv
            refine wp_region_rkt (by kernel_rfl) [none, none, none, none, none, none, none, none, none, none, some 30, none, none, none, none, none, none, none, none, none, none, none, none, none, none, none, none, none, none, none, none, none, none, none, none, none, none, none, none, none, none, none, none, none, none, none, none, none, none, none, none, none, none, none, none, none, none, none, none, none, none, none, none, none, none, none, none, none, none, none, none, none, none, none, none, none, none, none, none, none, none, none, none, none, none, none, none, none, none, none, none, none, none, none, none, none, none, none, none, none, none, none, none, none, some 0, some 1, some 2, some 3, some 4, some 5, some 6, some 7, some 8, some 9, some 10, some 11, some 12, some 13, some 14, some 15, some 16, some 17, some 18, some 19, some 20, some 21, some 22, some 23, some 24, some 25, some 26, some 27, some 28, some 29] 29 30 (by kernel_rfl) (by kernel_rfl) (by kernel_rfl) _ _ rfl rfl 10 rfl w.heap.size [rkV (.int .i64 sm), rkV (.agg #[.int .i64 r.x, .int .i64 r.y, .int .i64 r.w, .slice a4 r.r.length k4]), rkV (.int .i64 0), rkV (.pointer (some ⟨w.heap.size + 1, 0, none⟩)), rkV (.pointer (some ⟨w.heap.size + 1, 0, none⟩)), rkV (.int .i64 (k0 : Int)), rkV (.int .i64 0), rkV (.pointer (some ⟨w.heap.size + 1, 0, none⟩)), rkV (.pointer (some ⟨w.heap.size + 1, 1, none⟩)), rkV (.int .i64 (k1 : Int)), rkV (.int .i64 (x : Int)), rkV (.int .i64 1), rkV (.int .i64 1), rkV (.int .i64 (ca : Int)), rkV (.int .i64 (cc : Int)), rkV (.int .i64 qN), rkV (.int .i64 on), rkV (.int .i64 (qN * on)), rkV (.agg #[.int .i64 r.x, .int .i64 r.y, .int .i64 r.w, .slice a4 r.r.length k4]), rkV (.pointer (some ⟨wr.heap.size, 0, none⟩)), rkV (.int .i64 (m : Int)), rkV (.pointer (some ⟨wr.heap.size, 1, none⟩)), rkV (.int .i64 (n : Int)), rkV (.int .i64 (dd : Int)), rkV (.int .i64 0), rkV (.int .i64 (ce : Int)), rkV (.int .i64 (cf : Int)), rkV (.int .i64 qD), rkV (.int .i64 (qN * on * qD))] _ rfl (by kernel_rfl) (by simp) ?_ ?_
            · intro i o ho hi hi2 u g ww hbw hu2 hd
              replace hu2 : u 30 = .int .i64 sm := hu2
              have hall : Below w.heap.size w ww := halld.trans (hbw.mono (by omega))
              have hlow : w.heap.size ≤ ww.heap.size := hall.size
              obtain ⟨hcl, hfr⟩ := bcell hbw
              have y_n0 := (hcl _ _ (by omega)).trans n0
              have y_n1 := (hcl _ _ (by omega)).trans n1
              have y_y0 := (hcl _ _ (by omega)).trans y0
              have y_y1 := (hcl _ _ (by omega)).trans y1
              have y_y2 := (hcl _ _ (by omega)).trans y2
              have y_y3 := (hcl _ _ (by omega)).trans y3
              have y_z0 := (hcl _ _ (by omega)).trans z0
              have y_z1 := (hcl _ _ (by omega)).trans z1
              have y_z2 := (hcl _ _ (by omega)).trans z2
              have y_z3 := (hcl _ _ (by omega)).trans z3
              clear hcl hfr
              rcases i with _ | _ | _ | _ | _ | _ | _ | _ | _ | _ | _ | _ | _ | _ | _ | _ | _ | _ | _ | _ | _ | _ | _ | _ | _ | _ | _ | _ | _ | _ | _ | i
              all_goals try obtain rfl := Option.some.inj ho
              all_goals try simp only [putAll, fillL]
              · rw [hu2]
                go_wp2
                exact ⟨_, by simp only [putAll, fillL, hu2] <;> rfl, kept0 (Below.refl _ _), rfl⟩
              · go_wp2
                exact ⟨_, by simp only [putAll, fillL, hu2] <;> rfl, kept0 (Below.refl _ _), rfl⟩
              · go_wp2
                exact ⟨_, by simp only [putAll, fillL, hu2] <;> rfl, kept0 (Below.refl _ _), rfl⟩
              · have e2 : u 2 = .int .i64 0 := hd 2 (by decide)
                rw [e2]
                go_wp2
                exact ⟨_, by simp only [putAll, fillL, hu2, e2] <;> rfl, kept0 (Below.refl _ _), rfl⟩
              · have e3 : u 3 = .pointer (some ⟨w.heap.size + 1, 0, none⟩) := hd 3 (by decide)
                rw [e3]
                go_wp2
                exact ⟨_, by simp only [putAll, fillL, hu2, e3] <;> rfl, kept0 (Below.refl _ _), rfl⟩
              · have e4 : u 4 = .pointer (some ⟨w.heap.size + 1, 0, none⟩) := hd 4 (by decide)
                rw [e4]
                go_wp2
                exact ⟨_, by simp only [putAll, fillL, hu2, e4] <;> rfl, kept0 (Below.refl _ _), rfl⟩
              · go_wp2
                exact ⟨_, by simp only [putAll, fillL, hu2] <;> rfl, kept0 (Below.refl _ _), rfl⟩
              · have e6 : u 6 = .int .i64 0 := hd 6 (by decide)
                rw [e6]
                go_wp2
                exact ⟨_, by simp only [putAll, fillL, hu2, e6] <;> rfl, kept0 (Below.refl _ _), rfl⟩
              · have e7 : u 7 = .pointer (some ⟨w.heap.size + 1, 0, none⟩) := hd 7 (by decide)
                rw [e7]
                go_wp2
                exact ⟨_, by simp only [putAll, fillL, hu2, e7] <;> rfl, kept0 (Below.refl _ _), rfl⟩
              · have e8 : u 8 = .pointer (some ⟨w.heap.size + 1, 1, none⟩) := hd 8 (by decide)
                rw [e8]
                go_wp2
                exact ⟨_, by simp only [putAll, fillL, hu2, e8] <;> rfl, kept0 (Below.refl _ _), rfl⟩
              · have e5 : u 5 = .int .i64 (k0 : Int) := hd 5 (by decide)
                rw [e5]
                have e9 : u 9 = .int .i64 (k1 : Int) := hd 9 (by decide)
                rw [e9]
                go_wp2
                exact ⟨_, by simp only [putAll, fillL, hu2, e5, e9] <;> rfl, kept0 (Below.refl _ _), rfl⟩
              · go_wp2
                exact ⟨_, by simp only [putAll, fillL, hu2] <;> rfl, kept0 (Below.refl _ _), rfl⟩
              · have e11 : u 11 = .int .i64 1 := hd 11 (by decide)
                rw [e11]
                go_wp2
                exact ⟨_, by simp only [putAll, fillL, hu2, e11] <;> rfl, kept0 (Below.refl _ _), rfl⟩
              · go_wp2
                exact ⟨_, by simp only [putAll, fillL, hu2] <;> rfl, kept0 (Below.refl _ _), rfl⟩
              · go_wp2
                exact ⟨_, by simp only [putAll, fillL, hu2] <;> rfl, kept0 (Below.refl _ _), rfl⟩
              · have e1 : u 1 = .agg #[.int .i64 r.x, .int .i64 r.y, .int .i64 r.w, .slice a4 r.r.length k4] := hd 1 (by decide)
                rw [e1]
                have e10 : u 10 = .int .i64 (x : Int) := hd 10 (by decide)
                rw [e10]
                have e12 : u 12 = .int .i64 1 := hd 12 (by decide)
                rw [e12]
                have e13 : u 13 = .int .i64 (ca : Int) := hd 13 (by decide)
                rw [e13]
                have e14 : u 14 = .int .i64 (cc : Int) := hd 14 (by decide)
                rw [e14]
                go_wp2_with fail
                refine (hqN.out ▸ c_at _ r x 1 ca cc 2 _ (h.below hall) hyy.out (by omega) (by rw [hlen.out]; omega) (by rw [(hl4.out _ (by omega)).1]; omega) (by omega)).mono ?_
                rintro e wn ⟨rfl, hbn⟩
                go_wp2
                exact ⟨_, by simp only [putAll, fillL, hu2, e1, e10, e12, e13, e14] <;> rfl, kept0 hbn, rfl⟩
              · go_wp2
                exact ⟨_, by simp only [putAll, fillL, hu2] <;> rfl, kept0 (Below.refl _ _), rfl⟩
              · have e15 : u 15 = .int .i64 qN := hd 15 (by decide)
                rw [e15]
                have e16 : u 16 = .int .i64 on := hd 16 (by decide)
                rw [e16]
                go_wp2
                exact ⟨_, by simp only [putAll, fillL, hu2, e15, e16] <;> rfl, kept0 (Below.refl _ _), rfl⟩
              · go_wp2
                exact ⟨_, by simp only [putAll, fillL, hu2] <;> rfl, kept0 (Below.refl _ _), rfl⟩
              · go_wp2
                exact ⟨_, by simp only [putAll, fillL, hu2] <;> rfl, kept0 (Below.refl _ _), rfl⟩
              · have e19 : u 19 = .pointer (some ⟨wr.heap.size, 0, none⟩) := hd 19 (by decide)
                rw [e19]
                go_wp2
                exact ⟨_, by simp only [putAll, fillL, hu2, e19] <;> rfl, kept0 (Below.refl _ _), rfl⟩
              · go_wp2
                exact ⟨_, by simp only [putAll, fillL, hu2] <;> rfl, kept0 (Below.refl _ _), rfl⟩
              · have e21 : u 21 = .pointer (some ⟨wr.heap.size, 1, none⟩) := hd 21 (by decide)
                rw [e21]
                go_wp2
                exact ⟨_, by simp only [putAll, fillL, hu2, e21] <;> rfl, kept0 (Below.refl _ _), rfl⟩
              · have e20 : u 20 = .int .i64 (m : Int) := hd 20 (by decide)
                rw [e20]
                have e22 : u 22 = .int .i64 (n : Int) := hd 22 (by decide)
                rw [e22]
                go_wp2
                exact ⟨_, by simp only [putAll, fillL, hu2, e20, e22] <;> rfl, kept0 (Below.refl _ _), rfl⟩
              · go_wp2
                exact ⟨_, by simp only [putAll, fillL, hu2] <;> rfl, kept0 (Below.refl _ _), rfl⟩
              · go_wp2
                exact ⟨_, by simp only [putAll, fillL, hu2] <;> rfl, kept0 (Below.refl _ _), rfl⟩
              · go_wp2
                exact ⟨_, by simp only [putAll, fillL, hu2] <;> rfl, kept0 (Below.refl _ _), rfl⟩
              · have e18 : u 18 = .agg #[.int .i64 r.x, .int .i64 r.y, .int .i64 r.w, .slice a4 r.r.length k4] := hd 18 (by decide)
                rw [e18]
                have e23 : u 23 = .int .i64 (dd : Int) := hd 23 (by decide)
                rw [e23]
                have e24 : u 24 = .int .i64 0 := hd 24 (by decide)
                rw [e24]
                have e25 : u 25 = .int .i64 (ce : Int) := hd 25 (by decide)
                rw [e25]
                have e26 : u 26 = .int .i64 (cf : Int) := hd 26 (by decide)
                rw [e26]
                go_wp2_with fail
                refine (hqD.out ▸ c_at _ r dd 0 ce cf 2 _ (h.below hall) hyy.out (by omega) (by rw [hlen.out]; omega) (by rw [(hl4.out _ (by omega)).1]; omega) (by omega)).mono ?_
                rintro e wn ⟨rfl, hbn⟩
                go_wp2
                exact ⟨_, by simp only [putAll, fillL, hu2, e18, e23, e24, e25, e26] <;> rfl, kept0 hbn, rfl⟩
              · have e17 : u 17 = .int .i64 (qN * on) := hd 17 (by decide)
                rw [e17]
                have e27 : u 27 = .int .i64 qD := hd 27 (by decide)
                rw [e27]
                go_wp2
                exact ⟨_, by simp only [putAll, fillL, hu2, e17, e27] <;> rfl, kept0 (Below.refl _ _), rfl⟩
              · exact absurd rfl hi
              · exact absurd rfl hi2
              · simp at ho
            · intro uu g w7 hbw hu2 hR hAp
              have e28 : uu 28 = .int .i64 (qN * on * qD) := hR 28 (by decide) (by decide) (by decide)
              have e0 : uu 0 = .int .i64 sm := hR 0 (by decide) (by decide) (by decide)
              replace hu2 : uu 30 = .int .i64 sm := hu2
              have hB7 := hB5.trans (hbw.mono (by omega))
              clear hR hAp n0 n1 y0 y1 y2 y3 z0 z1 z2 z3 hbw hB5 halld
              simp only [putAll, fillL]
              rw [hu2, e28, e0]
              clear hu2 e28 e0
              go_wp2
              go_roundw
              case rel => first | exact ⟨q + 1, by omega, by go_num, by rw [hst2.out], hB7⟩ | ((repeat apply Exists.intro); exact ⟨⟨q + 1, by omega, rfl, by rw [hst2.out], hB7⟩, rfl⟩)
              case measure => simp [intOf]; omega
      · have hst2 : Hid (sumT F (q + 1) = sm) := Lib.hid (by rw [hst.out, if_neg (by have := hg; simp at this; omega)]; omega)
        clear y0 y1 y2 y3 z0 z1 z2 z3
        go_wp2
        go_roundw
        case rel => first | exact ⟨q + 1, by omega, by go_num, by rw [hst2.out], hB2⟩ | ((repeat apply Exists.intro); exact ⟨⟨q + 1, by omega, rfl, by rw [hst2.out], hB2⟩, rfl⟩)
        case measure => simp [intOf]; omega
    · obtain rfl : q = 32 := by omega
      have hall := hA2.trans (hB.mono (by omega))
      go_wp2
      go_ret
      exact ⟨by rw [hRes.out]; rfl, hall⟩

set_option maxRecDepth 100000 in
set_option maxHeartbeats 8000000 in
theorem c_chainRight2 (v : Value) (r : BoxD) (k : Nat) (w : World) (h : BoxR w v r) (hc : chainB r = true) (hk : k < 16) :
    Calls Try.prog 79 #[v, .int .i64 k, .int .i64 2] w fun e w' => e = .returned (.int .i64 (rightV r k 2)) ∧ Below w.heap.size w w' := by
  obtain ⟨v4, rfl, hr⟩ := id h
  obtain ⟨a4, k4, rfl, l4⟩ := hr.out
  have hA := (Below.refl w.heap.size w).alloc (Nat.le_refl _) (.cells #[.int .i64 r.x, .int .i64 r.y, .int .i64 r.w, .slice a4 r.r.length k4] 50)
  have pB : (w.alloc (.cells #[.int .i64 r.x, .int .i64 r.y, .int .i64 r.w, .slice a4 r.r.length k4] 50)).heap[w.heap.size]? = some (.cells #[.int .i64 r.x, .int .i64 r.y, .int .i64 r.w, .slice a4 r.r.length k4] 50 (0, 0)) := heap_alloc_at rfl
  have hp : pairB r = true := by unfold chainB at hc; simp only [Bool.and_eq_true] at hc; exact hc.1
  obtain ⟨hbb, hxx, hyy, hlen⟩ := pairB_facts hp
  have hl4 := fun q (hq : q < 4) => (boxB_row hbb (show q < r.r.length by omega))
  have hcl := fun q (hq : q < 4) => chain_cell hc hq
  have hww : 0 ≤ r.w ∧ r.w ≤ 100 := by
    refine ⟨by have := (boxB_size hbb).2.2.1.1; omega, ?_⟩
    unfold chainB at hc
    simp only [Bool.and_eq_true, decide_eq_true_eq] at hc
    exact hc.2.2
  clear hp
  replace hbb := Lib.hid hbb
  replace hlen := Lib.hid hlen
  replace hxx := Lib.hid hxx
  replace hyy := Lib.hid hyy
  replace hc := Lib.hid hc
  replace hl4 := Lib.hid hl4
  replace hcl := Lib.hid hcl
  replace hww := Lib.hid hww
  obtain ⟨k0, hk0⟩ : ∃ s, s = bN 0 k := ⟨_, rfl⟩
  obtain ⟨k1, hk1⟩ : ∃ s, s = bN 1 k := ⟨_, rfl⟩
  obtain ⟨k2, hk2⟩ : ∃ s, s = bN 2 k := ⟨_, rfl⟩
  obtain ⟨k3, hk3⟩ : ∃ s, s = bN 3 k := ⟨_, rfl⟩
  have l0 : k0 ≤ 1 := hk0 ▸ bN_le _ _
  have l1 : k1 ≤ 1 := hk1 ▸ bN_le _ _
  have l2 : k2 ≤ 1 := hk2 ▸ bN_le _ _
  have l3 : k3 ≤ 1 := hk3 ▸ bN_le _ _
  have b0 : bits .and .i64 (k : Int) 1 = (k0 : Int) := by rw [hk0]; have := bandN k (2 ^ 0) 0 (by omega) rfl; simpa using this
  have b1 : bits .and .i64 ((k : Int) / 2) 1 = (k1 : Int) := by rw [hk1]; have := bandN k (2 ^ 1) 1 (by omega) rfl; simpa using this
  have b2 : bits .and .i64 ((k : Int) / 4) 1 = (k2 : Int) := by rw [hk2]; have := bandN k (2 ^ 2) 2 (by omega) rfl; simpa using this
  have b3 : bits .and .i64 ((k : Int) / 8) 1 = (k3 : Int) := by rw [hk3]; have := bandN k (2 ^ 3) 3 (by omega) rfl; simpa using this
  have lx := bx_le k2 k3
  have ly := bx_le k0 k1
  have xst := bits_bx k2 k3 (by omega) (by omega)
  have xuv := bits_bx k0 k1 (by omega) (by omega)
  obtain ⟨F, hF⟩ : ∃ F, F = fI r 1 k2 k2 k0 (bx k2 k3 * 2 + 0) (bx k0 k1 * 2 + 0) := ⟨_, rfl⟩
  have hRes : Hid (rightV r k 2 = sumT F 32) := Lib.hid (by rw [hF, sum_fI, hk0, hk1, hk2, hk3]; rfl)
  obtain ⟨x, hx⟩ : ∃ x, x = bx k2 k3 := ⟨_, rfl⟩
  obtain ⟨y, hy⟩ : ∃ y, y = bx k0 k1 := ⟨_, rfl⟩
  rw [← hx] at lx xst hF
  rw [← hy] at ly xuv hF
  have hFb := sumT_bound (F := F) (fun q => by rw [hF]; exact tT_bound hc.out (by decide) (by omega) (by omega))
  replace hk0 := Lib.hid hk0
  replace hk1 := Lib.hid hk1
  replace hk2 := Lib.hid hk2
  replace hk3 := Lib.hid hk3
  replace hF := Lib.hid hF
  replace hFb := Lib.hid hFb
  replace hx := Lib.hid hx
  replace hy := Lib.hid hy
  obtain ⟨wp, hwp⟩ : ∃ q, q = (w.alloc (.cells #[.int .i64 r.x, .int .i64 r.y, .int .i64 r.w, .slice a4 r.r.length k4] 50)).alloc (.cells #[.int .i64 k0, .int .i64 k1, .int .i64 k2, .int .i64 k3] 75) := ⟨_, rfl⟩
  have pP : wp.heap[w.heap.size + 1]? = some (.cells #[.int .i64 k0, .int .i64 k1, .int .i64 k2, .int .i64 k3] 75 (0, 0)) := by rw [hwp]; exact heap_alloc_at (by simp)
  have hAP : Below (w.heap.size + 1) (w.alloc (.cells #[.int .i64 r.x, .int .i64 r.y, .int .i64 r.w, .slice a4 r.r.length k4] 50)) wp := by rw [hwp]; exact (Below.refl _ _).alloc (by simp) _
  replace pB := (hAP.block _ (by omega)).trans pB
  have hA2 := hA.trans (hAP.mono (by omega))
  have hszp : wp.heap.size = w.heap.size + 2 := by rw [hwp]; simp
  replace hwp := Lib.hid hwp
  clear hA hAP
  go_enter Try.func79, Try.ntmps79
  go_wp2_with fail
  rw [← hwp.out]
  go_loopw [10, 39] (fun sm a wr => ∃ q : Nat, q ≤ 32 ∧ a = .int .i64 q ∧ sm = .int .i64 (sumT F q) ∧ Below (w.heap.size + 2) wp wr) (fun _ a _ => 32 - (intOf a).toNat)
  case atStart => exact ⟨0, by omega, rfl, rfl, Below.refl _ _⟩
  case round =>
    obtain ⟨q, hq, rfl, rfl, hB⟩ := hrel
    have hbq := hFb.out q
    by_cases hlq : q < 32
    · have hdq : decide ((q : Int) < 32) = true := by simp; omega
      obtain ⟨ca, hca⟩ : ∃ z, z = bN 0 q := ⟨_, rfl⟩
      obtain ⟨cc, hcc⟩ : ∃ z, z = bN 1 q := ⟨_, rfl⟩
      obtain ⟨cd, hcd⟩ : ∃ z, z = bN 2 q := ⟨_, rfl⟩
      obtain ⟨ce, hce⟩ : ∃ z, z = bN 3 q := ⟨_, rfl⟩
      obtain ⟨cf, hcf⟩ : ∃ z, z = bN 4 q := ⟨_, rfl⟩
      have q0 : bits .and .i64 (q : Int) 1 = (ca : Int) := by rw [hca]; have := bandN q (2 ^ 0) 0 (by omega) rfl; simpa using this
      have q1 : bits .and .i64 ((q : Int) / 2) 1 = (cc : Int) := by rw [hcc]; have := bandN q (2 ^ 1) 1 (by omega) rfl; simpa using this
      have q2 : bits .and .i64 ((q : Int) / 4) 1 = (cd : Int) := by rw [hcd]; have := bandN q (2 ^ 2) 2 (by omega) rfl; simpa using this
      have q3 : bits .and .i64 ((q : Int) / 8) 1 = (ce : Int) := by rw [hce]; have := bandN q (2 ^ 3) 3 (by omega) rfl; simpa using this
      have q4 : bits .and .i64 ((q : Int) / 16) 1 = (cf : Int) := by rw [hcf]; have := bandN q (2 ^ 4) 4 (by omega) rfl; simpa using this
      have la : ca ≤ 1 := hca ▸ bN_le _ _
      have lc : cc ≤ 1 := hcc ▸ bN_le _ _
      have ld : cd ≤ 1 := hcd ▸ bN_le _ _
      have le : ce ≤ 1 := hce ▸ bN_le _ _
      have lf : cf ≤ 1 := hcf ▸ bN_le _ _
      obtain ⟨m, hm⟩ : ∃ q, q = bx k2 ca := ⟨_, rfl⟩
      obtain ⟨n, hn⟩ : ∃ q, q = bx k0 cd := ⟨_, rfl⟩
      obtain ⟨dd, hdd⟩ : ∃ q, q = bx n m := ⟨_, rfl⟩
      have lm : m ≤ 1 := hm ▸ bx_le _ _
      have ln : n ≤ 1 := hn ▸ bx_le _ _
      have ldd : dd ≤ 1 := hdd ▸ bx_le _ _
      have xm : bits .xor .i64 (k2 : Int) (ca : Int) = (m : Int) := by rw [hm]; exact bits_bx k2 ca (by omega) la
      have xn : bits .xor .i64 (k0 : Int) (cd : Int) = (n : Int) := by rw [hn]; exact bits_bx k0 cd (by omega) ld
      have xd : bits .xor .i64 (n : Int) (m : Int) = (dd : Int) := by rw [hdd]; exact bits_bx n m (by omega) (by omega)
      obtain ⟨g1, hg1⟩ : ∃ q, q = bx n ce := ⟨_, rfl⟩
      obtain ⟨g2, hg2⟩ : ∃ q, q = bx g1 cf := ⟨_, rfl⟩
      obtain ⟨g3, hg3⟩ : ∃ q, q = bx g2 cc := ⟨_, rfl⟩
      have lg1 : g1 ≤ 1 := hg1 ▸ bx_le _ _
      have lg2 : g2 ≤ 1 := hg2 ▸ bx_le _ _
      have xg1 : bits .xor .i64 (n : Int) (ce : Int) = (g1 : Int) := by rw [hg1]; exact bits_bx _ ce (by omega) le
      have xg2 : bits .xor .i64 (g1 : Int) (cf : Int) = (g2 : Int) := by rw [hg2]; exact bits_bx g1 cf lg1 lf
      have xg3 : bits .xor .i64 (g2 : Int) (cc : Int) = (g3 : Int) := by rw [hg3]; exact bits_bx g2 cc lg2 lc
      obtain ⟨sm, hsm⟩ : ∃ z, z = sumT F q := ⟨_, rfl⟩
      obtain ⟨qN, hqN⟩ : ∃ q, q = cellB r (x * 2 + 0) (2 * ca + cc) := ⟨_, rfl⟩
      obtain ⟨on, hon⟩ : ∃ q, q = cellB r (y * 2 + 0) (2 * cd) + cellB r (y * 2 + 0) (2 * cd + 1) := ⟨_, rfl⟩
      obtain ⟨qD, hqD⟩ : ∃ q, q = cellB r (dd * 2 + 1) (2 * ce + cf) := ⟨_, rfl⟩
      have hdm : dd = bx m n := by rw [hdd] <;> (unfold bx; omega)
      have hT : F q = if g3 = k2 then qN * on * qD else 0 := by
        rw [hF.out]
        unfold fI tT
        rw [show q % 2 = ca by rw [hca]; unfold bN; simp, show q / 2 % 2 = cc by rw [hcc]; unfold bN; simp, show q / 4 % 2 = cd by rw [hcd]; unfold bN; simp, show q / 8 % 2 = ce by rw [hce]; unfold bN; simp, show q / 16 = cf by rw [hcf]; unfold bN; simp <;> omega]
        rw [show (2 * ca + cc) / 2 = ca by omega, show (2 * ca + cc) % 2 = cc by omega, show (2 * ce + cf) / 2 = ce by omega, show (2 * ce + cf) % 2 = cf by omega]
        rw [← hm, ← hn, ← hdm]
        rw [hg3, hg2, hg1, hqN, hon, hqD]
        rfl
      have hst : sumT F (q + 1) = sm + F q := by rw [hsm]; rfl
      rw [hT] at hst
      have bN1 : 0 ≤ qN ∧ qN ≤ 100 := hqN ▸ hcl.out _ (by omega) _
      have bO0 : 0 ≤ on ∧ on ≤ 200 := by
        have u1 := hcl.out (y * 2 + 0) (by omega) (2 * cd)
        have u2 := hcl.out (y * 2 + 0) (by omega) (2 * cd + 1)
        omega
      have bD : 0 ≤ qD ∧ qD ≤ 100 := hqD ▸ hcl.out _ (by omega) _
      have bP1 := mul_bound bN1 bO0
      have bP2 := mul_bound bP1 bD
      rw [← hsm] at hbq ⊢
      clear hT hca hcc hcd hce hcf hg1 hg2 hg3 hdd hdm hm hn
      replace hst := Lib.hid hst
      replace hsm := Lib.hid hsm
      replace hqN := Lib.hid hqN
      replace hon := Lib.hid hon
      replace hqD := Lib.hid hqD
      have hszr := hB.size
      have hallr := hA2.trans (hB.mono (by omega))
      obtain ⟨wc, hwc⟩ : ∃ z, z = wr.alloc (.cells #[.int .i64 0, .int .i64 0] 48) := ⟨_, rfl⟩
      have hszc : wc.heap.size = wr.heap.size + 1 := by rw [hwc]; simp
      have pM : wc.heap[wr.heap.size]? = some (.cells #[.int .i64 0, .int .i64 0] 48 (0, 0)) := by rw [hwc]; exact heap_alloc_at rfl
      have hC : Below wr.heap.size wr wc := by rw [hwc]; exact (Below.refl _ _).alloc (by simp) _
      replace hwc := Lib.hid hwc
      have pP2 := ((hC.block _ (by omega)).trans (hB.block _ (by omega))).trans pP
      go_wp2_with fail
      rw [← hwc.out]
      obtain ⟨⟨y0, y1, y2, y3⟩, -⟩ := blk4 pP2
      obtain ⟨⟨n0, n1⟩, n2, n3⟩ := blk2m pM
      have pM2 := block_set (j := 0) (v := .int .i64 n) (block_set (j := 1) (v := .int .i64 m) pM)
      clear pM pP2
      go_region
      obtain ⟨wd, hwd⟩ : ∃ z, z = ((wc.setCell ⟨wr.heap.size, 1, none⟩ (.int .i64 m)).setCell ⟨wr.heap.size, 0, none⟩ (.int .i64 n)).drew := ⟨_, rfl⟩
      have hD : Below (w.heap.size + 2) wr wd := by rw [hwd]; exact (((hC.mono (by omega)).setCell (by simp; omega) _).setCell (by simp; omega) _).drew
      have pM3 : wd.heap[wr.heap.size]? = some (.cells #[.int .i64 n, .int .i64 m] 48 (0, 0)) := by rw [hwd]; exact pM2
      have hszd : wd.heap.size = wr.heap.size + 1 := by rw [hwd]; simp [hszc]
      rw [← hwd]
      clear hwd pM2 n0 n1 n2 n3 y0 y1 y2 y3 hC hwc hszc wc
      have hB2 := hB.trans hD
      have halld := hA2.trans (hB2.mono (by omega))
      obtain ⟨⟨n0, n1⟩, -⟩ := blk2m pM3
      obtain ⟨⟨y0, y1, y2, y3⟩, -⟩ := blk4 ((hB2.block _ (by omega)).trans pP)
      obtain ⟨⟨z0, z1, z2, z3⟩, -⟩ := blk4 ((hB2.block _ (by omega)).trans pB)
      clear hD hB
      cases hg : ((g3 : Int) != (k2 : Int))
      · have hst2 : Hid (sumT F (q + 1) = sm + qN * on * qD) := Lib.hid (by rw [hst.out, if_pos (by have := hg; simp at this; omega)])
        have hw1 := hww.out
        obtain ⟨o1, ho1⟩ : ∃ z, z = one0 r (y * 2 + 0) := ⟨_, rfl⟩
        have bo1 : 0 ≤ o1 ∧ o1 ≤ 200 := by
          have u1 := hcl.out (y * 2 + 0) (by omega) 2
          have u2 := hcl.out (y * 2 + 0) (by omega) 3
          unfold one0 at ho1
          omega
        have hsu : Hid (r.w - o1 = cellB r (y * 2 + 0) 0 + cellB r (y * 2 + 0) 1) := Lib.hid (by
          have u1 := hl4.out (y * 2 + 0) (by omega)
          have u2 := sum4 _ u1.1
          rw [u1.2.2] at u2
          unfold one0 cellB at ho1
          unfold cellB
          omega)
        replace ho1 := Lib.hid ho1
        go_wp2_with fail
        clear b0 b1 b2 b3 q0 q1 q2 q3 q4 xm xn xg1 xg2 xg3 hg
        refine wp_region_rk (by kernel_rfl) [none, none, none, none, none, none, none, none, none, none, none, none, none, none, none, none, none, none, none, some 11, none, none, none, none, none, none, none, none, none, none, none, none, none, none, none, none, none, none, none, none, none, none, none, none, none, none, none, none, none, none, none, none, none, none, none, none, none, none, none, none, none, none, none, none, none, none, none, none, none, none, none, none, none, none, none, none, none, none, none, none, none, none, none, none, none, none, none, some 0, some 1, some 2, some 3, some 4, some 5, some 6, some 7, some 8, some 9, some 10] 11 (by kernel_rfl) (by kernel_rfl) (by kernel_rfl) _ rfl w.heap.size [rkV (.agg #[.int .i64 r.x, .int .i64 r.y, .int .i64 r.w, .slice a4 r.r.length k4]), rkV (.int .i64 0), rkV (.pointer (some ⟨w.heap.size + 1, 0, none⟩)), rkV (.pointer (some ⟨w.heap.size + 1, 0, none⟩)), rkV (.int .i64 (k0 : Int)), rkV (.int .i64 0), rkV (.pointer (some ⟨w.heap.size + 1, 0, none⟩)), rkV (.pointer (some ⟨w.heap.size + 1, 1, none⟩)), rkV (.int .i64 (k1 : Int)), rkV (.int .i64 (y : Int)), rkV (.int .i64 o1)] _ rfl (by kernel_rfl) (by simp) ?_ ?_
        · intro i o ho hi u g ww hbw hd
          have hall : Below w.heap.size w ww := halld.trans (hbw.mono (by omega))
          have hlow : w.heap.size ≤ ww.heap.size := hall.size
          obtain ⟨hcl, hfr⟩ := bcell hbw
          have y_y0 := (hcl _ _ (by omega)).trans y0
          have y_y1 := (hcl _ _ (by omega)).trans y1
          have y_y2 := (hcl _ _ (by omega)).trans y2
          have y_y3 := (hcl _ _ (by omega)).trans y3
          have y_z0 := (hcl _ _ (by omega)).trans z0
          have y_z1 := (hcl _ _ (by omega)).trans z1
          have y_z2 := (hcl _ _ (by omega)).trans z2
          have y_z3 := (hcl _ _ (by omega)).trans z3
          clear hcl hfr
          rcases i with _ | _ | _ | _ | _ | _ | _ | _ | _ | _ | _ | _ | i
          all_goals try obtain rfl := Option.some.inj ho
          all_goals try simp only [putAll, fillL]
          · go_wp2
            exact ⟨_, rfl, kept0 (Below.refl _ _), rfl⟩
          · go_wp2
            exact ⟨_, rfl, kept0 (Below.refl _ _), rfl⟩
          · have e1 : u 1 = .int .i64 0 := hd 1 (by decide)
            rw [e1]
            go_wp2
            exact ⟨_, by simp only [putAll, fillL, e1] <;> rfl, kept0 (Below.refl _ _), rfl⟩
          · have e2 : u 2 = .pointer (some ⟨w.heap.size + 1, 0, none⟩) := hd 2 (by decide)
            rw [e2]
            go_wp2
            exact ⟨_, by simp only [putAll, fillL, e2] <;> rfl, kept0 (Below.refl _ _), rfl⟩
          · have e3 : u 3 = .pointer (some ⟨w.heap.size + 1, 0, none⟩) := hd 3 (by decide)
            rw [e3]
            go_wp2
            exact ⟨_, by simp only [putAll, fillL, e3] <;> rfl, kept0 (Below.refl _ _), rfl⟩
          · go_wp2
            exact ⟨_, rfl, kept0 (Below.refl _ _), rfl⟩
          · have e5 : u 5 = .int .i64 0 := hd 5 (by decide)
            rw [e5]
            go_wp2
            exact ⟨_, by simp only [putAll, fillL, e5] <;> rfl, kept0 (Below.refl _ _), rfl⟩
          · have e6 : u 6 = .pointer (some ⟨w.heap.size + 1, 0, none⟩) := hd 6 (by decide)
            rw [e6]
            go_wp2
            exact ⟨_, by simp only [putAll, fillL, e6] <;> rfl, kept0 (Below.refl _ _), rfl⟩
          · have e7 : u 7 = .pointer (some ⟨w.heap.size + 1, 1, none⟩) := hd 7 (by decide)
            rw [e7]
            go_wp2
            exact ⟨_, by simp only [putAll, fillL, e7] <;> rfl, kept0 (Below.refl _ _), rfl⟩
          · have e4 : u 4 = .int .i64 (k0 : Int) := hd 4 (by decide)
            rw [e4]
            have e8 : u 8 = .int .i64 (k1 : Int) := hd 8 (by decide)
            rw [e8]
            go_wp2
            exact ⟨_, by simp only [putAll, fillL, e4, e8] <;> rfl, kept0 (Below.refl _ _), rfl⟩
          · have e0 : u 0 = .agg #[.int .i64 r.x, .int .i64 r.y, .int .i64 r.w, .slice a4 r.r.length k4] := hd 0 (by decide)
            rw [e0]
            have e9 : u 9 = .int .i64 (y : Int) := hd 9 (by decide)
            rw [e9]
            go_wp2_with fail
            refine (ho1.out ▸ c_ones0 _ r y 0 2 _ (h.below hall) hyy.out (by omega) hbb.out (by rw [hlen.out]; omega)).mono ?_
            rintro e wn ⟨rfl, hbn⟩
            go_wp2
            exact ⟨_, by simp only [putAll, fillL, e0, e9] <;> rfl, kept0 hbn, rfl⟩
          · exact absurd rfl hi
          · simp at ho
        · intro u g w5 hbw hR hAp
          have e10 : u 10 = .int .i64 o1 := hR 10 (by decide) (by decide)
          have hB5 := hB2.trans (hbw.mono (by omega))
          have pM5 := (hbw.block _ (by omega)).trans pM3
          have hsz5 := hbw.size
          clear hR hAp n0 n1 y0 y1 y2 y3 z0 z1 z2 z3 hB2 halld hbw
          simp only [putAll, fillL]
          rw [e10]
          clear e10
          have halld := hA2.trans (hB5.mono (by omega))
          obtain ⟨⟨n0, n1⟩, -⟩ := blk2m pM5
          obtain ⟨⟨y0, y1, y2, y3⟩, -⟩ := blk4 ((hB5.block _ (by omega)).trans pP)
          obtain ⟨⟨z0, z1, z2, z3⟩, -⟩ := blk4 ((hB5.block _ (by omega)).trans pB)
          cases hz : ((cd : Int) == 0)
          · have hE : o1 = on := by
              have : cd = 1 := by have := hz; simp at this; omega
              rw [hon.out, ho1.out, this]
              rfl
            go_wp2_with fail
            try rw [hE]
            clear hE hz xuv
            refine wp_region_rkt (by kernel_rfl) [none, none, none, none, none, none, none, none, none, none, some 30, none, none, none, none, none, none, none, none, none, none, none, none, none, none, none, none, none, none, none, none, none, none, none, none, none, none, none, none, none, none, none, none, none, none, none, none, none, none, none, none, none, none, none, none, none, none, none, none, none, none, none, none, none, none, none, none, none, none, none, none, none, none, none, none, none, none, none, none, none, none, none, none, none, none, none, none, none, none, none, none, none, none, none, none, none, none, none, none, none, none, none, none, none, some 0, some 1, some 2, some 3, some 4, some 5, some 6, some 7, some 8, some 9, some 10, some 11, some 12, some 13, some 14, some 15, some 16, some 17, some 18, some 19, some 20, some 21, some 22, some 23, some 24, some 25, some 26, some 27, some 28, some 29] 29 30 (by kernel_rfl) (by kernel_rfl) (by kernel_rfl) _ _ rfl rfl 10 rfl w.heap.size [rkV (.int .i64 sm), rkV (.agg #[.int .i64 r.x, .int .i64 r.y, .int .i64 r.w, .slice a4 r.r.length k4]), rkV (.int .i64 1), rkV (.pointer (some ⟨w.heap.size + 1, 2, none⟩)), rkV (.pointer (some ⟨w.heap.size + 1, 2, none⟩)), rkV (.int .i64 (k2 : Int)), rkV (.int .i64 1), rkV (.pointer (some ⟨w.heap.size + 1, 2, none⟩)), rkV (.pointer (some ⟨w.heap.size + 1, 3, none⟩)), rkV (.int .i64 (k3 : Int)), rkV (.int .i64 (x : Int)), rkV (.int .i64 2), rkV (.int .i64 0), rkV (.int .i64 (ca : Int)), rkV (.int .i64 (cc : Int)), rkV (.int .i64 qN), rkV (.int .i64 on), rkV (.int .i64 (qN * on)), rkV (.agg #[.int .i64 r.x, .int .i64 r.y, .int .i64 r.w, .slice a4 r.r.length k4]), rkV (.pointer (some ⟨wr.heap.size, 0, none⟩)), rkV (.int .i64 (n : Int)), rkV (.pointer (some ⟨wr.heap.size, 1, none⟩)), rkV (.int .i64 (m : Int)), rkV (.int .i64 (dd : Int)), rkV (.int .i64 1), rkV (.int .i64 (ce : Int)), rkV (.int .i64 (cf : Int)), rkV (.int .i64 qD), rkV (.int .i64 (qN * on * qD))] _ rfl (by kernel_rfl) (by simp) ?_ ?_
            · intro i o ho hi hi2 u g ww hbw hu2 hd
              replace hu2 : u 30 = .int .i64 sm := hu2
              have hall : Below w.heap.size w ww := halld.trans (hbw.mono (by omega))
              have hlow : w.heap.size ≤ ww.heap.size := hall.size
              obtain ⟨hcl, hfr⟩ := bcell hbw
              have y_n0 := (hcl _ _ (by omega)).trans n0
              have y_n1 := (hcl _ _ (by omega)).trans n1
              have y_y0 := (hcl _ _ (by omega)).trans y0
              have y_y1 := (hcl _ _ (by omega)).trans y1
              have y_y2 := (hcl _ _ (by omega)).trans y2
              have y_y3 := (hcl _ _ (by omega)).trans y3
              have y_z0 := (hcl _ _ (by omega)).trans z0
              have y_z1 := (hcl _ _ (by omega)).trans z1
              have y_z2 := (hcl _ _ (by omega)).trans z2
              have y_z3 := (hcl _ _ (by omega)).trans z3
              clear hcl hfr
              rcases i with _ | _ | _ | _ | _ | _ | _ | _ | _ | _ | _ | _ | _ | _ | _ | _ | _ | _ | _ | _ | _ | _ | _ | _ | _ | _ | _ | _ | _ | _ | _ | i
              all_goals try obtain rfl := Option.some.inj ho
              all_goals try simp only [putAll, fillL]
              · rw [hu2]
                go_wp2
                exact ⟨_, by simp only [putAll, fillL, hu2] <;> rfl, kept0 (Below.refl _ _), rfl⟩
              · go_wp2
                exact ⟨_, by simp only [putAll, fillL, hu2] <;> rfl, kept0 (Below.refl _ _), rfl⟩
              · go_wp2
                exact ⟨_, by simp only [putAll, fillL, hu2] <;> rfl, kept0 (Below.refl _ _), rfl⟩
              · have e2 : u 2 = .int .i64 1 := hd 2 (by decide)
                rw [e2]
                go_wp2
                exact ⟨_, by simp only [putAll, fillL, hu2, e2] <;> rfl, kept0 (Below.refl _ _), rfl⟩
              · have e3 : u 3 = .pointer (some ⟨w.heap.size + 1, 2, none⟩) := hd 3 (by decide)
                rw [e3]
                go_wp2
                exact ⟨_, by simp only [putAll, fillL, hu2, e3] <;> rfl, kept0 (Below.refl _ _), rfl⟩
              · have e4 : u 4 = .pointer (some ⟨w.heap.size + 1, 2, none⟩) := hd 4 (by decide)
                rw [e4]
                go_wp2
                exact ⟨_, by simp only [putAll, fillL, hu2, e4] <;> rfl, kept0 (Below.refl _ _), rfl⟩
              · go_wp2
                exact ⟨_, by simp only [putAll, fillL, hu2] <;> rfl, kept0 (Below.refl _ _), rfl⟩
              · have e6 : u 6 = .int .i64 1 := hd 6 (by decide)
                rw [e6]
                go_wp2
                exact ⟨_, by simp only [putAll, fillL, hu2, e6] <;> rfl, kept0 (Below.refl _ _), rfl⟩
              · have e7 : u 7 = .pointer (some ⟨w.heap.size + 1, 2, none⟩) := hd 7 (by decide)
                rw [e7]
                go_wp2
                exact ⟨_, by simp only [putAll, fillL, hu2, e7] <;> rfl, kept0 (Below.refl _ _), rfl⟩
              · have e8 : u 8 = .pointer (some ⟨w.heap.size + 1, 3, none⟩) := hd 8 (by decide)
                rw [e8]
                go_wp2
                exact ⟨_, by simp only [putAll, fillL, hu2, e8] <;> rfl, kept0 (Below.refl _ _), rfl⟩
              · have e5 : u 5 = .int .i64 (k2 : Int) := hd 5 (by decide)
                rw [e5]
                have e9 : u 9 = .int .i64 (k3 : Int) := hd 9 (by decide)
                rw [e9]
                go_wp2
                exact ⟨_, by simp only [putAll, fillL, hu2, e5, e9] <;> rfl, kept0 (Below.refl _ _), rfl⟩
              · go_wp2
                exact ⟨_, by simp only [putAll, fillL, hu2] <;> rfl, kept0 (Below.refl _ _), rfl⟩
              · have e11 : u 11 = .int .i64 2 := hd 11 (by decide)
                rw [e11]
                go_wp2
                exact ⟨_, by simp only [putAll, fillL, hu2, e11] <;> rfl, kept0 (Below.refl _ _), rfl⟩
              · go_wp2
                exact ⟨_, by simp only [putAll, fillL, hu2] <;> rfl, kept0 (Below.refl _ _), rfl⟩
              · go_wp2
                exact ⟨_, by simp only [putAll, fillL, hu2] <;> rfl, kept0 (Below.refl _ _), rfl⟩
              · have e1 : u 1 = .agg #[.int .i64 r.x, .int .i64 r.y, .int .i64 r.w, .slice a4 r.r.length k4] := hd 1 (by decide)
                rw [e1]
                have e10 : u 10 = .int .i64 (x : Int) := hd 10 (by decide)
                rw [e10]
                have e12 : u 12 = .int .i64 0 := hd 12 (by decide)
                rw [e12]
                have e13 : u 13 = .int .i64 (ca : Int) := hd 13 (by decide)
                rw [e13]
                have e14 : u 14 = .int .i64 (cc : Int) := hd 14 (by decide)
                rw [e14]
                go_wp2_with fail
                refine (hqN.out ▸ c_at _ r x 0 ca cc 2 _ (h.below hall) hyy.out (by omega) (by rw [hlen.out]; omega) (by rw [(hl4.out _ (by omega)).1]; omega) (by omega)).mono ?_
                rintro e wn ⟨rfl, hbn⟩
                go_wp2
                exact ⟨_, by simp only [putAll, fillL, hu2, e1, e10, e12, e13, e14] <;> rfl, kept0 hbn, rfl⟩
              · go_wp2
                exact ⟨_, by simp only [putAll, fillL, hu2] <;> rfl, kept0 (Below.refl _ _), rfl⟩
              · have e15 : u 15 = .int .i64 qN := hd 15 (by decide)
                rw [e15]
                have e16 : u 16 = .int .i64 on := hd 16 (by decide)
                rw [e16]
                go_wp2
                exact ⟨_, by simp only [putAll, fillL, hu2, e15, e16] <;> rfl, kept0 (Below.refl _ _), rfl⟩
              · go_wp2
                exact ⟨_, by simp only [putAll, fillL, hu2] <;> rfl, kept0 (Below.refl _ _), rfl⟩
              · go_wp2
                exact ⟨_, by simp only [putAll, fillL, hu2] <;> rfl, kept0 (Below.refl _ _), rfl⟩
              · have e19 : u 19 = .pointer (some ⟨wr.heap.size, 0, none⟩) := hd 19 (by decide)
                rw [e19]
                go_wp2
                exact ⟨_, by simp only [putAll, fillL, hu2, e19] <;> rfl, kept0 (Below.refl _ _), rfl⟩
              · go_wp2
                exact ⟨_, by simp only [putAll, fillL, hu2] <;> rfl, kept0 (Below.refl _ _), rfl⟩
              · have e21 : u 21 = .pointer (some ⟨wr.heap.size, 1, none⟩) := hd 21 (by decide)
                rw [e21]
                go_wp2
                exact ⟨_, by simp only [putAll, fillL, hu2, e21] <;> rfl, kept0 (Below.refl _ _), rfl⟩
              · have e20 : u 20 = .int .i64 (n : Int) := hd 20 (by decide)
                rw [e20]
                have e22 : u 22 = .int .i64 (m : Int) := hd 22 (by decide)
                rw [e22]
                go_wp2
                exact ⟨_, by simp only [putAll, fillL, hu2, e20, e22] <;> rfl, kept0 (Below.refl _ _), rfl⟩
              · go_wp2
                exact ⟨_, by simp only [putAll, fillL, hu2] <;> rfl, kept0 (Below.refl _ _), rfl⟩
              · go_wp2
                exact ⟨_, by simp only [putAll, fillL, hu2] <;> rfl, kept0 (Below.refl _ _), rfl⟩
              · go_wp2
                exact ⟨_, by simp only [putAll, fillL, hu2] <;> rfl, kept0 (Below.refl _ _), rfl⟩
              · have e18 : u 18 = .agg #[.int .i64 r.x, .int .i64 r.y, .int .i64 r.w, .slice a4 r.r.length k4] := hd 18 (by decide)
                rw [e18]
                have e23 : u 23 = .int .i64 (dd : Int) := hd 23 (by decide)
                rw [e23]
                have e24 : u 24 = .int .i64 1 := hd 24 (by decide)
                rw [e24]
                have e25 : u 25 = .int .i64 (ce : Int) := hd 25 (by decide)
                rw [e25]
                have e26 : u 26 = .int .i64 (cf : Int) := hd 26 (by decide)
                rw [e26]
                go_wp2_with fail
                refine (hqD.out ▸ c_at _ r dd 1 ce cf 2 _ (h.below hall) hyy.out (by omega) (by rw [hlen.out]; omega) (by rw [(hl4.out _ (by omega)).1]; omega) (by omega)).mono ?_
                rintro e wn ⟨rfl, hbn⟩
                go_wp2
                exact ⟨_, by simp only [putAll, fillL, hu2, e18, e23, e24, e25, e26] <;> rfl, kept0 hbn, rfl⟩
              · have e17 : u 17 = .int .i64 (qN * on) := hd 17 (by decide)
                rw [e17]
                have e27 : u 27 = .int .i64 qD := hd 27 (by decide)
                rw [e27]
                go_wp2
                exact ⟨_, by simp only [putAll, fillL, hu2, e17, e27] <;> rfl, kept0 (Below.refl _ _), rfl⟩
              · exact absurd rfl hi
              · exact absurd rfl hi2
              · simp at ho
            · intro uu g w7 hbw hu2 hR hAp
              have e28 : uu 28 = .int .i64 (qN * on * qD) := hR 28 (by decide) (by decide) (by decide)
              have e0 : uu 0 = .int .i64 sm := hR 0 (by decide) (by decide) (by decide)
              replace hu2 : uu 30 = .int .i64 sm := hu2
              have hB7 := hB5.trans (hbw.mono (by omega))
              clear hR hAp n0 n1 y0 y1 y2 y3 z0 z1 z2 z3 hbw hB5 halld
              simp only [putAll, fillL]
              rw [hu2, e28, e0]
              clear hu2 e28 e0
              go_wp2
              go_roundw
              case rel => first | exact ⟨q + 1, by omega, by go_num, by rw [hst2.out], hB7⟩ | ((repeat apply Exists.intro); exact ⟨⟨q + 1, by omega, rfl, by rw [hst2.out], hB7⟩, rfl⟩)
              case measure => simp [intOf]; omega
          · have hE : r.w - o1 = on := by
              have : cd = 0 := by have := hz; simp at this; omega
              rw [hon.out, hsu.out, this]
            go_wp2_with fail
            try rw [hE]
            clear hE hz xuv
            refine wp_region_rkt (by kernel_rfl) [none, none, none, none, none, none, none, none, none, none, some 30, none, none, none, none, none, none, none, none, none, none, none, none, none, none, none, none, none, none, none, none, none, none, none, none, none, none, none, none, none, none, none, none, none, none, none, none, none, none, none, none, none, none, none, none, none, none, none, none, none, none, none, none, none, none, none, none, none, none, none, none, none, none, none, none, none, none, none, none, none, none, none, none, none, none, none, none, none, none, none, none, none, none, none, none, none, none, none, none, none, none, none, none, none, some 0, some 1, some 2, some 3, some 4, some 5, some 6, some 7, some 8, some 9, some 10, some 11, some 12, some 13, some 14, some 15, some 16, some 17, some 18, some 19, some 20, some 21, some 22, some 23, some 24, some 25, some 26, some 27, some 28, some 29] 29 30 (by kernel_rfl) (by kernel_rfl) (by kernel_rfl) _ _ rfl rfl 10 rfl w.heap.size [rkV (.int .i64 sm), rkV (.agg #[.int .i64 r.x, .int .i64 r.y, .int .i64 r.w, .slice a4 r.r.length k4]), rkV (.int .i64 1), rkV (.pointer (some ⟨w.heap.size + 1, 2, none⟩)), rkV (.pointer (some ⟨w.heap.size + 1, 2, none⟩)), rkV (.int .i64 (k2 : Int)), rkV (.int .i64 1), rkV (.pointer (some ⟨w.heap.size + 1, 2, none⟩)), rkV (.pointer (some ⟨w.heap.size + 1, 3, none⟩)), rkV (.int .i64 (k3 : Int)), rkV (.int .i64 (x : Int)), rkV (.int .i64 2), rkV (.int .i64 0), rkV (.int .i64 (ca : Int)), rkV (.int .i64 (cc : Int)), rkV (.int .i64 qN), rkV (.int .i64 on), rkV (.int .i64 (qN * on)), rkV (.agg #[.int .i64 r.x, .int .i64 r.y, .int .i64 r.w, .slice a4 r.r.length k4]), rkV (.pointer (some ⟨wr.heap.size, 0, none⟩)), rkV (.int .i64 (n : Int)), rkV (.pointer (some ⟨wr.heap.size, 1, none⟩)), rkV (.int .i64 (m : Int)), rkV (.int .i64 (dd : Int)), rkV (.int .i64 1), rkV (.int .i64 (ce : Int)), rkV (.int .i64 (cf : Int)), rkV (.int .i64 qD), rkV (.int .i64 (qN * on * qD))] _ rfl (by kernel_rfl) (by simp) ?_ ?_
            · intro i o ho hi hi2 u g ww hbw hu2 hd
              replace hu2 : u 30 = .int .i64 sm := hu2
              have hall : Below w.heap.size w ww := halld.trans (hbw.mono (by omega))
              have hlow : w.heap.size ≤ ww.heap.size := hall.size
              obtain ⟨hcl, hfr⟩ := bcell hbw
              have y_n0 := (hcl _ _ (by omega)).trans n0
              have y_n1 := (hcl _ _ (by omega)).trans n1
              have y_y0 := (hcl _ _ (by omega)).trans y0
              have y_y1 := (hcl _ _ (by omega)).trans y1
              have y_y2 := (hcl _ _ (by omega)).trans y2
              have y_y3 := (hcl _ _ (by omega)).trans y3
              have y_z0 := (hcl _ _ (by omega)).trans z0
              have y_z1 := (hcl _ _ (by omega)).trans z1
              have y_z2 := (hcl _ _ (by omega)).trans z2
              have y_z3 := (hcl _ _ (by omega)).trans z3
              clear hcl hfr
              rcases i with _ | _ | _ | _ | _ | _ | _ | _ | _ | _ | _ | _ | _ | _ | _ | _ | _ | _ | _ | _ | _ | _ | _ | _ | _ | _ | _ | _ | _ | _ | _ | i
              all_goals try obtain rfl := Option.some.inj ho
              all_goals try simp only [putAll, fillL]
              · rw [hu2]
                go_wp2
                exact ⟨_, by simp only [putAll, fillL, hu2] <;> rfl, kept0 (Below.refl _ _), rfl⟩
              · go_wp2
                exact ⟨_, by simp only [putAll, fillL, hu2] <;> rfl, kept0 (Below.refl _ _), rfl⟩
              · go_wp2
                exact ⟨_, by simp only [putAll, fillL, hu2] <;> rfl, kept0 (Below.refl _ _), rfl⟩
              · have e2 : u 2 = .int .i64 1 := hd 2 (by decide)
                rw [e2]
                go_wp2
                exact ⟨_, by simp only [putAll, fillL, hu2, e2] <;> rfl, kept0 (Below.refl _ _), rfl⟩
              · have e3 : u 3 = .pointer (some ⟨w.heap.size + 1, 2, none⟩) := hd 3 (by decide)
                rw [e3]
                go_wp2
                exact ⟨_, by simp only [putAll, fillL, hu2, e3] <;> rfl, kept0 (Below.refl _ _), rfl⟩
              · have e4 : u 4 = .pointer (some ⟨w.heap.size + 1, 2, none⟩) := hd 4 (by decide)
                rw [e4]
                go_wp2
                exact ⟨_, by simp only [putAll, fillL, hu2, e4] <;> rfl, kept0 (Below.refl _ _), rfl⟩
              · go_wp2
                exact ⟨_, by simp only [putAll, fillL, hu2] <;> rfl, kept0 (Below.refl _ _), rfl⟩
              · have e6 : u 6 = .int .i64 1 := hd 6 (by decide)
                rw [e6]
                go_wp2
                exact ⟨_, by simp only [putAll, fillL, hu2, e6] <;> rfl, kept0 (Below.refl _ _), rfl⟩
              · have e7 : u 7 = .pointer (some ⟨w.heap.size + 1, 2, none⟩) := hd 7 (by decide)
                rw [e7]
                go_wp2
                exact ⟨_, by simp only [putAll, fillL, hu2, e7] <;> rfl, kept0 (Below.refl _ _), rfl⟩
              · have e8 : u 8 = .pointer (some ⟨w.heap.size + 1, 3, none⟩) := hd 8 (by decide)
                rw [e8]
                go_wp2
                exact ⟨_, by simp only [putAll, fillL, hu2, e8] <;> rfl, kept0 (Below.refl _ _), rfl⟩
              · have e5 : u 5 = .int .i64 (k2 : Int) := hd 5 (by decide)
                rw [e5]
                have e9 : u 9 = .int .i64 (k3 : Int) := hd 9 (by decide)
                rw [e9]
                go_wp2
                exact ⟨_, by simp only [putAll, fillL, hu2, e5, e9] <;> rfl, kept0 (Below.refl _ _), rfl⟩
              · go_wp2
                exact ⟨_, by simp only [putAll, fillL, hu2] <;> rfl, kept0 (Below.refl _ _), rfl⟩
              · have e11 : u 11 = .int .i64 2 := hd 11 (by decide)
                rw [e11]
                go_wp2
                exact ⟨_, by simp only [putAll, fillL, hu2, e11] <;> rfl, kept0 (Below.refl _ _), rfl⟩
              · go_wp2
                exact ⟨_, by simp only [putAll, fillL, hu2] <;> rfl, kept0 (Below.refl _ _), rfl⟩
              · go_wp2
                exact ⟨_, by simp only [putAll, fillL, hu2] <;> rfl, kept0 (Below.refl _ _), rfl⟩
              · have e1 : u 1 = .agg #[.int .i64 r.x, .int .i64 r.y, .int .i64 r.w, .slice a4 r.r.length k4] := hd 1 (by decide)
                rw [e1]
                have e10 : u 10 = .int .i64 (x : Int) := hd 10 (by decide)
                rw [e10]
                have e12 : u 12 = .int .i64 0 := hd 12 (by decide)
                rw [e12]
                have e13 : u 13 = .int .i64 (ca : Int) := hd 13 (by decide)
                rw [e13]
                have e14 : u 14 = .int .i64 (cc : Int) := hd 14 (by decide)
                rw [e14]
                go_wp2_with fail
                refine (hqN.out ▸ c_at _ r x 0 ca cc 2 _ (h.below hall) hyy.out (by omega) (by rw [hlen.out]; omega) (by rw [(hl4.out _ (by omega)).1]; omega) (by omega)).mono ?_
                rintro e wn ⟨rfl, hbn⟩
                go_wp2
                exact ⟨_, by simp only [putAll, fillL, hu2, e1, e10, e12, e13, e14] <;> rfl, kept0 hbn, rfl⟩
              · go_wp2
                exact ⟨_, by simp only [putAll, fillL, hu2] <;> rfl, kept0 (Below.refl _ _), rfl⟩
              · have e15 : u 15 = .int .i64 qN := hd 15 (by decide)
                rw [e15]
                have e16 : u 16 = .int .i64 on := hd 16 (by decide)
                rw [e16]
                go_wp2
                exact ⟨_, by simp only [putAll, fillL, hu2, e15, e16] <;> rfl, kept0 (Below.refl _ _), rfl⟩
              · go_wp2
                exact ⟨_, by simp only [putAll, fillL, hu2] <;> rfl, kept0 (Below.refl _ _), rfl⟩
              · go_wp2
                exact ⟨_, by simp only [putAll, fillL, hu2] <;> rfl, kept0 (Below.refl _ _), rfl⟩
              · have e19 : u 19 = .pointer (some ⟨wr.heap.size, 0, none⟩) := hd 19 (by decide)
                rw [e19]
                go_wp2
                exact ⟨_, by simp only [putAll, fillL, hu2, e19] <;> rfl, kept0 (Below.refl _ _), rfl⟩
              · go_wp2
                exact ⟨_, by simp only [putAll, fillL, hu2] <;> rfl, kept0 (Below.refl _ _), rfl⟩
              · have e21 : u 21 = .pointer (some ⟨wr.heap.size, 1, none⟩) := hd 21 (by decide)
                rw [e21]
                go_wp2
                exact ⟨_, by simp only [putAll, fillL, hu2, e21] <;> rfl, kept0 (Below.refl _ _), rfl⟩
              · have e20 : u 20 = .int .i64 (n : Int) := hd 20 (by decide)
                rw [e20]
                have e22 : u 22 = .int .i64 (m : Int) := hd 22 (by decide)
                rw [e22]
                go_wp2
                exact ⟨_, by simp only [putAll, fillL, hu2, e20, e22] <;> rfl, kept0 (Below.refl _ _), rfl⟩
              · go_wp2
                exact ⟨_, by simp only [putAll, fillL, hu2] <;> rfl, kept0 (Below.refl _ _), rfl⟩
              · go_wp2
                exact ⟨_, by simp only [putAll, fillL, hu2] <;> rfl, kept0 (Below.refl _ _), rfl⟩
              · go_wp2
                exact ⟨_, by simp only [putAll, fillL, hu2] <;> rfl, kept0 (Below.refl _ _), rfl⟩
              · have e18 : u 18 = .agg #[.int .i64 r.x, .int .i64 r.y, .int .i64 r.w, .slice a4 r.r.length k4] := hd 18 (by decide)
                rw [e18]
                have e23 : u 23 = .int .i64 (dd : Int) := hd 23 (by decide)
                rw [e23]
                have e24 : u 24 = .int .i64 1 := hd 24 (by decide)
                rw [e24]
                have e25 : u 25 = .int .i64 (ce : Int) := hd 25 (by decide)
                rw [e25]
                have e26 : u 26 = .int .i64 (cf : Int) := hd 26 (by decide)
                rw [e26]
                go_wp2_with fail
                refine (hqD.out ▸ c_at _ r dd 1 ce cf 2 _ (h.below hall) hyy.out (by omega) (by rw [hlen.out]; omega) (by rw [(hl4.out _ (by omega)).1]; omega) (by omega)).mono ?_
                rintro e wn ⟨rfl, hbn⟩
                go_wp2
                exact ⟨_, by simp only [putAll, fillL, hu2, e18, e23, e24, e25, e26] <;> rfl, kept0 hbn, rfl⟩
              · have e17 : u 17 = .int .i64 (qN * on) := hd 17 (by decide)
                rw [e17]
                have e27 : u 27 = .int .i64 qD := hd 27 (by decide)
                rw [e27]
                go_wp2
                exact ⟨_, by simp only [putAll, fillL, hu2, e17, e27] <;> rfl, kept0 (Below.refl _ _), rfl⟩
              · exact absurd rfl hi
              · exact absurd rfl hi2
              · simp at ho
            · intro uu g w7 hbw hu2 hR hAp
              have e28 : uu 28 = .int .i64 (qN * on * qD) := hR 28 (by decide) (by decide) (by decide)
              have e0 : uu 0 = .int .i64 sm := hR 0 (by decide) (by decide) (by decide)
              replace hu2 : uu 30 = .int .i64 sm := hu2
              have hB7 := hB5.trans (hbw.mono (by omega))
              clear hR hAp n0 n1 y0 y1 y2 y3 z0 z1 z2 z3 hbw hB5 halld
              simp only [putAll, fillL]
              rw [hu2, e28, e0]
              clear hu2 e28 e0
              go_wp2
              go_roundw
              case rel => first | exact ⟨q + 1, by omega, by go_num, by rw [hst2.out], hB7⟩ | ((repeat apply Exists.intro); exact ⟨⟨q + 1, by omega, rfl, by rw [hst2.out], hB7⟩, rfl⟩)
              case measure => simp [intOf]; omega
      · have hst2 : Hid (sumT F (q + 1) = sm) := Lib.hid (by rw [hst.out, if_neg (by have := hg; simp at this; omega)]; omega)
        clear y0 y1 y2 y3 z0 z1 z2 z3
        go_wp2
        go_roundw
        case rel => first | exact ⟨q + 1, by omega, by go_num, by rw [hst2.out], hB2⟩ | ((repeat apply Exists.intro); exact ⟨⟨q + 1, by omega, rfl, by rw [hst2.out], hB2⟩, rfl⟩)
        case measure => simp [intOf]; omega
    · obtain rfl : q = 32 := by omega
      have hall := hA2.trans (hB.mono (by omega))
      go_wp2
      go_ret
      exact ⟨by rw [hRes.out]; rfl, hall⟩

set_option maxRecDepth 100000 in
set_option maxHeartbeats 8000000 in
theorem c_chainRight3 (v : Value) (r : BoxD) (k : Nat) (w : World) (h : BoxR w v r) (hc : chainB r = true) (hk : k < 16) :
    Calls Try.prog 79 #[v, .int .i64 k, .int .i64 3] w fun e w' => e = .returned (.int .i64 (rightV r k 3)) ∧ Below w.heap.size w w' := by
  obtain ⟨v4, rfl, hr⟩ := id h
  obtain ⟨a4, k4, rfl, l4⟩ := hr.out
  have hA := (Below.refl w.heap.size w).alloc (Nat.le_refl _) (.cells #[.int .i64 r.x, .int .i64 r.y, .int .i64 r.w, .slice a4 r.r.length k4] 50)
  have pB : (w.alloc (.cells #[.int .i64 r.x, .int .i64 r.y, .int .i64 r.w, .slice a4 r.r.length k4] 50)).heap[w.heap.size]? = some (.cells #[.int .i64 r.x, .int .i64 r.y, .int .i64 r.w, .slice a4 r.r.length k4] 50 (0, 0)) := heap_alloc_at rfl
  have hp : pairB r = true := by unfold chainB at hc; simp only [Bool.and_eq_true] at hc; exact hc.1
  obtain ⟨hbb, hxx, hyy, hlen⟩ := pairB_facts hp
  have hl4 := fun q (hq : q < 4) => (boxB_row hbb (show q < r.r.length by omega))
  have hcl := fun q (hq : q < 4) => chain_cell hc hq
  have hww : 0 ≤ r.w ∧ r.w ≤ 100 := by
    refine ⟨by have := (boxB_size hbb).2.2.1.1; omega, ?_⟩
    unfold chainB at hc
    simp only [Bool.and_eq_true, decide_eq_true_eq] at hc
    exact hc.2.2
  clear hp
  replace hbb := Lib.hid hbb
  replace hlen := Lib.hid hlen
  replace hxx := Lib.hid hxx
  replace hyy := Lib.hid hyy
  replace hc := Lib.hid hc
  replace hl4 := Lib.hid hl4
  replace hcl := Lib.hid hcl
  replace hww := Lib.hid hww
  obtain ⟨k0, hk0⟩ : ∃ s, s = bN 0 k := ⟨_, rfl⟩
  obtain ⟨k1, hk1⟩ : ∃ s, s = bN 1 k := ⟨_, rfl⟩
  obtain ⟨k2, hk2⟩ : ∃ s, s = bN 2 k := ⟨_, rfl⟩
  obtain ⟨k3, hk3⟩ : ∃ s, s = bN 3 k := ⟨_, rfl⟩
  have l0 : k0 ≤ 1 := hk0 ▸ bN_le _ _
  have l1 : k1 ≤ 1 := hk1 ▸ bN_le _ _
  have l2 : k2 ≤ 1 := hk2 ▸ bN_le _ _
  have l3 : k3 ≤ 1 := hk3 ▸ bN_le _ _
  have b0 : bits .and .i64 (k : Int) 1 = (k0 : Int) := by rw [hk0]; have := bandN k (2 ^ 0) 0 (by omega) rfl; simpa using this
  have b1 : bits .and .i64 ((k : Int) / 2) 1 = (k1 : Int) := by rw [hk1]; have := bandN k (2 ^ 1) 1 (by omega) rfl; simpa using this
  have b2 : bits .and .i64 ((k : Int) / 4) 1 = (k2 : Int) := by rw [hk2]; have := bandN k (2 ^ 2) 2 (by omega) rfl; simpa using this
  have b3 : bits .and .i64 ((k : Int) / 8) 1 = (k3 : Int) := by rw [hk3]; have := bandN k (2 ^ 3) 3 (by omega) rfl; simpa using this
  have lx := bx_le k2 k3
  have ly := bx_le k0 k1
  have xst := bits_bx k2 k3 (by omega) (by omega)
  have xuv := bits_bx k0 k1 (by omega) (by omega)
  obtain ⟨F, hF⟩ : ∃ F, F = fI r 1 k3 k2 k0 (bx k2 k3 * 2 + 1) (bx k0 k1 * 2 + 0) := ⟨_, rfl⟩
  have hRes : Hid (rightV r k 3 = sumT F 32) := Lib.hid (by rw [hF, sum_fI, hk0, hk1, hk2, hk3]; rfl)
  obtain ⟨x, hx⟩ : ∃ x, x = bx k2 k3 := ⟨_, rfl⟩
  obtain ⟨y, hy⟩ : ∃ y, y = bx k0 k1 := ⟨_, rfl⟩
  rw [← hx] at lx xst hF
  rw [← hy] at ly xuv hF
  have hFb := sumT_bound (F := F) (fun q => by rw [hF]; exact tT_bound hc.out (by decide) (by omega) (by omega))
  replace hk0 := Lib.hid hk0
  replace hk1 := Lib.hid hk1
  replace hk2 := Lib.hid hk2
  replace hk3 := Lib.hid hk3
  replace hF := Lib.hid hF
  replace hFb := Lib.hid hFb
  replace hx := Lib.hid hx
  replace hy := Lib.hid hy
  obtain ⟨wp, hwp⟩ : ∃ q, q = (w.alloc (.cells #[.int .i64 r.x, .int .i64 r.y, .int .i64 r.w, .slice a4 r.r.length k4] 50)).alloc (.cells #[.int .i64 k0, .int .i64 k1, .int .i64 k2, .int .i64 k3] 75) := ⟨_, rfl⟩
  have pP : wp.heap[w.heap.size + 1]? = some (.cells #[.int .i64 k0, .int .i64 k1, .int .i64 k2, .int .i64 k3] 75 (0, 0)) := by rw [hwp]; exact heap_alloc_at (by simp)
  have hAP : Below (w.heap.size + 1) (w.alloc (.cells #[.int .i64 r.x, .int .i64 r.y, .int .i64 r.w, .slice a4 r.r.length k4] 50)) wp := by rw [hwp]; exact (Below.refl _ _).alloc (by simp) _
  replace pB := (hAP.block _ (by omega)).trans pB
  have hA2 := hA.trans (hAP.mono (by omega))
  have hszp : wp.heap.size = w.heap.size + 2 := by rw [hwp]; simp
  replace hwp := Lib.hid hwp
  clear hA hAP
  go_enter Try.func79, Try.ntmps79
  go_wp2_with fail
  rw [← hwp.out]
  go_loopw [10, 39] (fun sm a wr => ∃ q : Nat, q ≤ 32 ∧ a = .int .i64 q ∧ sm = .int .i64 (sumT F q) ∧ Below (w.heap.size + 2) wp wr) (fun _ a _ => 32 - (intOf a).toNat)
  case atStart => exact ⟨0, by omega, rfl, rfl, Below.refl _ _⟩
  case round =>
    obtain ⟨q, hq, rfl, rfl, hB⟩ := hrel
    have hbq := hFb.out q
    by_cases hlq : q < 32
    · have hdq : decide ((q : Int) < 32) = true := by simp; omega
      obtain ⟨ca, hca⟩ : ∃ z, z = bN 0 q := ⟨_, rfl⟩
      obtain ⟨cc, hcc⟩ : ∃ z, z = bN 1 q := ⟨_, rfl⟩
      obtain ⟨cd, hcd⟩ : ∃ z, z = bN 2 q := ⟨_, rfl⟩
      obtain ⟨ce, hce⟩ : ∃ z, z = bN 3 q := ⟨_, rfl⟩
      obtain ⟨cf, hcf⟩ : ∃ z, z = bN 4 q := ⟨_, rfl⟩
      have q0 : bits .and .i64 (q : Int) 1 = (ca : Int) := by rw [hca]; have := bandN q (2 ^ 0) 0 (by omega) rfl; simpa using this
      have q1 : bits .and .i64 ((q : Int) / 2) 1 = (cc : Int) := by rw [hcc]; have := bandN q (2 ^ 1) 1 (by omega) rfl; simpa using this
      have q2 : bits .and .i64 ((q : Int) / 4) 1 = (cd : Int) := by rw [hcd]; have := bandN q (2 ^ 2) 2 (by omega) rfl; simpa using this
      have q3 : bits .and .i64 ((q : Int) / 8) 1 = (ce : Int) := by rw [hce]; have := bandN q (2 ^ 3) 3 (by omega) rfl; simpa using this
      have q4 : bits .and .i64 ((q : Int) / 16) 1 = (cf : Int) := by rw [hcf]; have := bandN q (2 ^ 4) 4 (by omega) rfl; simpa using this
      have la : ca ≤ 1 := hca ▸ bN_le _ _
      have lc : cc ≤ 1 := hcc ▸ bN_le _ _
      have ld : cd ≤ 1 := hcd ▸ bN_le _ _
      have le : ce ≤ 1 := hce ▸ bN_le _ _
      have lf : cf ≤ 1 := hcf ▸ bN_le _ _
      obtain ⟨m, hm⟩ : ∃ q, q = bx k2 ca := ⟨_, rfl⟩
      obtain ⟨n, hn⟩ : ∃ q, q = bx k0 cd := ⟨_, rfl⟩
      obtain ⟨dd, hdd⟩ : ∃ q, q = bx n m := ⟨_, rfl⟩
      have lm : m ≤ 1 := hm ▸ bx_le _ _
      have ln : n ≤ 1 := hn ▸ bx_le _ _
      have ldd : dd ≤ 1 := hdd ▸ bx_le _ _
      have xm : bits .xor .i64 (k2 : Int) (ca : Int) = (m : Int) := by rw [hm]; exact bits_bx k2 ca (by omega) la
      have xn : bits .xor .i64 (k0 : Int) (cd : Int) = (n : Int) := by rw [hn]; exact bits_bx k0 cd (by omega) ld
      have xd : bits .xor .i64 (n : Int) (m : Int) = (dd : Int) := by rw [hdd]; exact bits_bx n m (by omega) (by omega)
      obtain ⟨g1, hg1⟩ : ∃ q, q = bx n ce := ⟨_, rfl⟩
      obtain ⟨g2, hg2⟩ : ∃ q, q = bx g1 cf := ⟨_, rfl⟩
      obtain ⟨g3, hg3⟩ : ∃ q, q = bx g2 cc := ⟨_, rfl⟩
      have lg1 : g1 ≤ 1 := hg1 ▸ bx_le _ _
      have lg2 : g2 ≤ 1 := hg2 ▸ bx_le _ _
      have xg1 : bits .xor .i64 (n : Int) (ce : Int) = (g1 : Int) := by rw [hg1]; exact bits_bx _ ce (by omega) le
      have xg2 : bits .xor .i64 (g1 : Int) (cf : Int) = (g2 : Int) := by rw [hg2]; exact bits_bx g1 cf lg1 lf
      have xg3 : bits .xor .i64 (g2 : Int) (cc : Int) = (g3 : Int) := by rw [hg3]; exact bits_bx g2 cc lg2 lc
      obtain ⟨sm, hsm⟩ : ∃ z, z = sumT F q := ⟨_, rfl⟩
      obtain ⟨qN, hqN⟩ : ∃ q, q = cellB r (x * 2 + 1) (2 * ca + cc) := ⟨_, rfl⟩
      obtain ⟨on, hon⟩ : ∃ q, q = cellB r (y * 2 + 0) (2 * cd) + cellB r (y * 2 + 0) (2 * cd + 1) := ⟨_, rfl⟩
      obtain ⟨qD, hqD⟩ : ∃ q, q = cellB r (dd * 2 + 1) (2 * ce + cf) := ⟨_, rfl⟩
      have hdm : dd = bx m n := by rw [hdd] <;> (unfold bx; omega)
      have hT : F q = if g3 = k3 then qN * on * qD else 0 := by
        rw [hF.out]
        unfold fI tT
        rw [show q % 2 = ca by rw [hca]; unfold bN; simp, show q / 2 % 2 = cc by rw [hcc]; unfold bN; simp, show q / 4 % 2 = cd by rw [hcd]; unfold bN; simp, show q / 8 % 2 = ce by rw [hce]; unfold bN; simp, show q / 16 = cf by rw [hcf]; unfold bN; simp <;> omega]
        rw [show (2 * ca + cc) / 2 = ca by omega, show (2 * ca + cc) % 2 = cc by omega, show (2 * ce + cf) / 2 = ce by omega, show (2 * ce + cf) % 2 = cf by omega]
        rw [← hm, ← hn, ← hdm]
        rw [hg3, hg2, hg1, hqN, hon, hqD]
        rfl
      have hst : sumT F (q + 1) = sm + F q := by rw [hsm]; rfl
      rw [hT] at hst
      have bN1 : 0 ≤ qN ∧ qN ≤ 100 := hqN ▸ hcl.out _ (by omega) _
      have bO0 : 0 ≤ on ∧ on ≤ 200 := by
        have u1 := hcl.out (y * 2 + 0) (by omega) (2 * cd)
        have u2 := hcl.out (y * 2 + 0) (by omega) (2 * cd + 1)
        omega
      have bD : 0 ≤ qD ∧ qD ≤ 100 := hqD ▸ hcl.out _ (by omega) _
      have bP1 := mul_bound bN1 bO0
      have bP2 := mul_bound bP1 bD
      rw [← hsm] at hbq ⊢
      clear hT hca hcc hcd hce hcf hg1 hg2 hg3 hdd hdm hm hn
      replace hst := Lib.hid hst
      replace hsm := Lib.hid hsm
      replace hqN := Lib.hid hqN
      replace hon := Lib.hid hon
      replace hqD := Lib.hid hqD
      have hszr := hB.size
      have hallr := hA2.trans (hB.mono (by omega))
      obtain ⟨wc, hwc⟩ : ∃ z, z = wr.alloc (.cells #[.int .i64 0, .int .i64 0] 48) := ⟨_, rfl⟩
      have hszc : wc.heap.size = wr.heap.size + 1 := by rw [hwc]; simp
      have pM : wc.heap[wr.heap.size]? = some (.cells #[.int .i64 0, .int .i64 0] 48 (0, 0)) := by rw [hwc]; exact heap_alloc_at rfl
      have hC : Below wr.heap.size wr wc := by rw [hwc]; exact (Below.refl _ _).alloc (by simp) _
      replace hwc := Lib.hid hwc
      have pP2 := ((hC.block _ (by omega)).trans (hB.block _ (by omega))).trans pP
      go_wp2_with fail
      rw [← hwc.out]
      obtain ⟨⟨y0, y1, y2, y3⟩, -⟩ := blk4 pP2
      obtain ⟨⟨n0, n1⟩, n2, n3⟩ := blk2m pM
      have pM2 := block_set (j := 0) (v := .int .i64 n) (block_set (j := 1) (v := .int .i64 m) pM)
      clear pM pP2
      go_region
      obtain ⟨wd, hwd⟩ : ∃ z, z = ((wc.setCell ⟨wr.heap.size, 1, none⟩ (.int .i64 m)).setCell ⟨wr.heap.size, 0, none⟩ (.int .i64 n)).drew := ⟨_, rfl⟩
      have hD : Below (w.heap.size + 2) wr wd := by rw [hwd]; exact (((hC.mono (by omega)).setCell (by simp; omega) _).setCell (by simp; omega) _).drew
      have pM3 : wd.heap[wr.heap.size]? = some (.cells #[.int .i64 n, .int .i64 m] 48 (0, 0)) := by rw [hwd]; exact pM2
      have hszd : wd.heap.size = wr.heap.size + 1 := by rw [hwd]; simp [hszc]
      rw [← hwd]
      clear hwd pM2 n0 n1 n2 n3 y0 y1 y2 y3 hC hwc hszc wc
      have hB2 := hB.trans hD
      have halld := hA2.trans (hB2.mono (by omega))
      obtain ⟨⟨n0, n1⟩, -⟩ := blk2m pM3
      obtain ⟨⟨y0, y1, y2, y3⟩, -⟩ := blk4 ((hB2.block _ (by omega)).trans pP)
      obtain ⟨⟨z0, z1, z2, z3⟩, -⟩ := blk4 ((hB2.block _ (by omega)).trans pB)
      clear hD hB
      cases hg : ((g3 : Int) != (k3 : Int))
      · have hst2 : Hid (sumT F (q + 1) = sm + qN * on * qD) := Lib.hid (by rw [hst.out, if_pos (by have := hg; simp at this; omega)])
        have hw1 := hww.out
        obtain ⟨o1, ho1⟩ : ∃ z, z = one0 r (y * 2 + 0) := ⟨_, rfl⟩
        have bo1 : 0 ≤ o1 ∧ o1 ≤ 200 := by
          have u1 := hcl.out (y * 2 + 0) (by omega) 2
          have u2 := hcl.out (y * 2 + 0) (by omega) 3
          unfold one0 at ho1
          omega
        have hsu : Hid (r.w - o1 = cellB r (y * 2 + 0) 0 + cellB r (y * 2 + 0) 1) := Lib.hid (by
          have u1 := hl4.out (y * 2 + 0) (by omega)
          have u2 := sum4 _ u1.1
          rw [u1.2.2] at u2
          unfold one0 cellB at ho1
          unfold cellB
          omega)
        replace ho1 := Lib.hid ho1
        go_wp2_with fail
        clear b0 b1 b2 b3 q0 q1 q2 q3 q4 xm xn xg1 xg2 xg3 hg
        refine wp_region_rk (by kernel_rfl) [none, none, none, none, none, none, none, none, none, none, none, none, none, none, none, none, none, none, none, some 11, none, none, none, none, none, none, none, none, none, none, none, none, none, none, none, none, none, none, none, none, none, none, none, none, none, none, none, none, none, none, none, none, none, none, none, none, none, none, none, none, none, none, none, none, none, none, none, none, none, none, none, none, none, none, none, none, none, none, none, none, none, none, none, none, none, none, none, some 0, some 1, some 2, some 3, some 4, some 5, some 6, some 7, some 8, some 9, some 10] 11 (by kernel_rfl) (by kernel_rfl) (by kernel_rfl) _ rfl w.heap.size [rkV (.agg #[.int .i64 r.x, .int .i64 r.y, .int .i64 r.w, .slice a4 r.r.length k4]), rkV (.int .i64 0), rkV (.pointer (some ⟨w.heap.size + 1, 0, none⟩)), rkV (.pointer (some ⟨w.heap.size + 1, 0, none⟩)), rkV (.int .i64 (k0 : Int)), rkV (.int .i64 0), rkV (.pointer (some ⟨w.heap.size + 1, 0, none⟩)), rkV (.pointer (some ⟨w.heap.size + 1, 1, none⟩)), rkV (.int .i64 (k1 : Int)), rkV (.int .i64 (y : Int)), rkV (.int .i64 o1)] _ rfl (by kernel_rfl) (by simp) ?_ ?_
        · intro i o ho hi u g ww hbw hd
          have hall : Below w.heap.size w ww := halld.trans (hbw.mono (by omega))
          have hlow : w.heap.size ≤ ww.heap.size := hall.size
          obtain ⟨hcl, hfr⟩ := bcell hbw
          have y_y0 := (hcl _ _ (by omega)).trans y0
          have y_y1 := (hcl _ _ (by omega)).trans y1
          have y_y2 := (hcl _ _ (by omega)).trans y2
          have y_y3 := (hcl _ _ (by omega)).trans y3
          have y_z0 := (hcl _ _ (by omega)).trans z0
          have y_z1 := (hcl _ _ (by omega)).trans z1
          have y_z2 := (hcl _ _ (by omega)).trans z2
          have y_z3 := (hcl _ _ (by omega)).trans z3
          clear hcl hfr
          rcases i with _ | _ | _ | _ | _ | _ | _ | _ | _ | _ | _ | _ | i
          all_goals try obtain rfl := Option.some.inj ho
          all_goals try simp only [putAll, fillL]
          · go_wp2
            exact ⟨_, rfl, kept0 (Below.refl _ _), rfl⟩
          · go_wp2
            exact ⟨_, rfl, kept0 (Below.refl _ _), rfl⟩
          · have e1 : u 1 = .int .i64 0 := hd 1 (by decide)
            rw [e1]
            go_wp2
            exact ⟨_, by simp only [putAll, fillL, e1] <;> rfl, kept0 (Below.refl _ _), rfl⟩
          · have e2 : u 2 = .pointer (some ⟨w.heap.size + 1, 0, none⟩) := hd 2 (by decide)
            rw [e2]
            go_wp2
            exact ⟨_, by simp only [putAll, fillL, e2] <;> rfl, kept0 (Below.refl _ _), rfl⟩
          · have e3 : u 3 = .pointer (some ⟨w.heap.size + 1, 0, none⟩) := hd 3 (by decide)
            rw [e3]
            go_wp2
            exact ⟨_, by simp only [putAll, fillL, e3] <;> rfl, kept0 (Below.refl _ _), rfl⟩
          · go_wp2
            exact ⟨_, rfl, kept0 (Below.refl _ _), rfl⟩
          · have e5 : u 5 = .int .i64 0 := hd 5 (by decide)
            rw [e5]
            go_wp2
            exact ⟨_, by simp only [putAll, fillL, e5] <;> rfl, kept0 (Below.refl _ _), rfl⟩
          · have e6 : u 6 = .pointer (some ⟨w.heap.size + 1, 0, none⟩) := hd 6 (by decide)
            rw [e6]
            go_wp2
            exact ⟨_, by simp only [putAll, fillL, e6] <;> rfl, kept0 (Below.refl _ _), rfl⟩
          · have e7 : u 7 = .pointer (some ⟨w.heap.size + 1, 1, none⟩) := hd 7 (by decide)
            rw [e7]
            go_wp2
            exact ⟨_, by simp only [putAll, fillL, e7] <;> rfl, kept0 (Below.refl _ _), rfl⟩
          · have e4 : u 4 = .int .i64 (k0 : Int) := hd 4 (by decide)
            rw [e4]
            have e8 : u 8 = .int .i64 (k1 : Int) := hd 8 (by decide)
            rw [e8]
            go_wp2
            exact ⟨_, by simp only [putAll, fillL, e4, e8] <;> rfl, kept0 (Below.refl _ _), rfl⟩
          · have e0 : u 0 = .agg #[.int .i64 r.x, .int .i64 r.y, .int .i64 r.w, .slice a4 r.r.length k4] := hd 0 (by decide)
            rw [e0]
            have e9 : u 9 = .int .i64 (y : Int) := hd 9 (by decide)
            rw [e9]
            go_wp2_with fail
            refine (ho1.out ▸ c_ones0 _ r y 0 2 _ (h.below hall) hyy.out (by omega) hbb.out (by rw [hlen.out]; omega)).mono ?_
            rintro e wn ⟨rfl, hbn⟩
            go_wp2
            exact ⟨_, by simp only [putAll, fillL, e0, e9] <;> rfl, kept0 hbn, rfl⟩
          · exact absurd rfl hi
          · simp at ho
        · intro u g w5 hbw hR hAp
          have e10 : u 10 = .int .i64 o1 := hR 10 (by decide) (by decide)
          have hB5 := hB2.trans (hbw.mono (by omega))
          have pM5 := (hbw.block _ (by omega)).trans pM3
          have hsz5 := hbw.size
          clear hR hAp n0 n1 y0 y1 y2 y3 z0 z1 z2 z3 hB2 halld hbw
          simp only [putAll, fillL]
          rw [e10]
          clear e10
          have halld := hA2.trans (hB5.mono (by omega))
          obtain ⟨⟨n0, n1⟩, -⟩ := blk2m pM5
          obtain ⟨⟨y0, y1, y2, y3⟩, -⟩ := blk4 ((hB5.block _ (by omega)).trans pP)
          obtain ⟨⟨z0, z1, z2, z3⟩, -⟩ := blk4 ((hB5.block _ (by omega)).trans pB)
          cases hz : ((cd : Int) == 0)
          · have hE : o1 = on := by
              have : cd = 1 := by have := hz; simp at this; omega
              rw [hon.out, ho1.out, this]
              rfl
            go_wp2_with fail
            try rw [hE]
            clear hE hz xuv
            refine wp_region_rkt (by kernel_rfl) [none, none, none, none, none, none, none, none, none, none, some 30, none, none, none, none, none, none, none, none, none, none, none, none, none, none, none, none, none, none, none, none, none, none, none, none, none, none, none, none, none, none, none, none, none, none, none, none, none, none, none, none, none, none, none, none, none, none, none, none, none, none, none, none, none, none, none, none, none, none, none, none, none, none, none, none, none, none, none, none, none, none, none, none, none, none, none, none, none, none, none, none, none, none, none, none, none, none, none, none, none, none, none, none, none, some 0, some 1, some 2, some 3, some 4, some 5, some 6, some 7, some 8, some 9, some 10, some 11, some 12, some 13, some 14, some 15, some 16, some 17, some 18, some 19, some 20, some 21, some 22, some 23, some 24, some 25, some 26, some 27, some 28, some 29] 29 30 (by kernel_rfl) (by kernel_rfl) (by kernel_rfl) _ _ rfl rfl 10 rfl w.heap.size [rkV (.int .i64 sm), rkV (.agg #[.int .i64 r.x, .int .i64 r.y, .int .i64 r.w, .slice a4 r.r.length k4]), rkV (.int .i64 1), rkV (.pointer (some ⟨w.heap.size + 1, 2, none⟩)), rkV (.pointer (some ⟨w.heap.size + 1, 2, none⟩)), rkV (.int .i64 (k2 : Int)), rkV (.int .i64 1), rkV (.pointer (some ⟨w.heap.size + 1, 2, none⟩)), rkV (.pointer (some ⟨w.heap.size + 1, 3, none⟩)), rkV (.int .i64 (k3 : Int)), rkV (.int .i64 (x : Int)), rkV (.int .i64 3), rkV (.int .i64 1), rkV (.int .i64 (ca : Int)), rkV (.int .i64 (cc : Int)), rkV (.int .i64 qN), rkV (.int .i64 on), rkV (.int .i64 (qN * on)), rkV (.agg #[.int .i64 r.x, .int .i64 r.y, .int .i64 r.w, .slice a4 r.r.length k4]), rkV (.pointer (some ⟨wr.heap.size, 0, none⟩)), rkV (.int .i64 (n : Int)), rkV (.pointer (some ⟨wr.heap.size, 1, none⟩)), rkV (.int .i64 (m : Int)), rkV (.int .i64 (dd : Int)), rkV (.int .i64 1), rkV (.int .i64 (ce : Int)), rkV (.int .i64 (cf : Int)), rkV (.int .i64 qD), rkV (.int .i64 (qN * on * qD))] _ rfl (by kernel_rfl) (by simp) ?_ ?_
            · intro i o ho hi hi2 u g ww hbw hu2 hd
              replace hu2 : u 30 = .int .i64 sm := hu2
              have hall : Below w.heap.size w ww := halld.trans (hbw.mono (by omega))
              have hlow : w.heap.size ≤ ww.heap.size := hall.size
              obtain ⟨hcl, hfr⟩ := bcell hbw
              have y_n0 := (hcl _ _ (by omega)).trans n0
              have y_n1 := (hcl _ _ (by omega)).trans n1
              have y_y0 := (hcl _ _ (by omega)).trans y0
              have y_y1 := (hcl _ _ (by omega)).trans y1
              have y_y2 := (hcl _ _ (by omega)).trans y2
              have y_y3 := (hcl _ _ (by omega)).trans y3
              have y_z0 := (hcl _ _ (by omega)).trans z0
              have y_z1 := (hcl _ _ (by omega)).trans z1
              have y_z2 := (hcl _ _ (by omega)).trans z2
              have y_z3 := (hcl _ _ (by omega)).trans z3
              clear hcl hfr
              rcases i with _ | _ | _ | _ | _ | _ | _ | _ | _ | _ | _ | _ | _ | _ | _ | _ | _ | _ | _ | _ | _ | _ | _ | _ | _ | _ | _ | _ | _ | _ | _ | i
              all_goals try obtain rfl := Option.some.inj ho
              all_goals try simp only [putAll, fillL]
              · rw [hu2]
                go_wp2
                exact ⟨_, by simp only [putAll, fillL, hu2] <;> rfl, kept0 (Below.refl _ _), rfl⟩
              · go_wp2
                exact ⟨_, by simp only [putAll, fillL, hu2] <;> rfl, kept0 (Below.refl _ _), rfl⟩
              · go_wp2
                exact ⟨_, by simp only [putAll, fillL, hu2] <;> rfl, kept0 (Below.refl _ _), rfl⟩
              · have e2 : u 2 = .int .i64 1 := hd 2 (by decide)
                rw [e2]
                go_wp2
                exact ⟨_, by simp only [putAll, fillL, hu2, e2] <;> rfl, kept0 (Below.refl _ _), rfl⟩
              · have e3 : u 3 = .pointer (some ⟨w.heap.size + 1, 2, none⟩) := hd 3 (by decide)
                rw [e3]
                go_wp2
                exact ⟨_, by simp only [putAll, fillL, hu2, e3] <;> rfl, kept0 (Below.refl _ _), rfl⟩
              · have e4 : u 4 = .pointer (some ⟨w.heap.size + 1, 2, none⟩) := hd 4 (by decide)
                rw [e4]
                go_wp2
                exact ⟨_, by simp only [putAll, fillL, hu2, e4] <;> rfl, kept0 (Below.refl _ _), rfl⟩
              · go_wp2
                exact ⟨_, by simp only [putAll, fillL, hu2] <;> rfl, kept0 (Below.refl _ _), rfl⟩
              · have e6 : u 6 = .int .i64 1 := hd 6 (by decide)
                rw [e6]
                go_wp2
                exact ⟨_, by simp only [putAll, fillL, hu2, e6] <;> rfl, kept0 (Below.refl _ _), rfl⟩
              · have e7 : u 7 = .pointer (some ⟨w.heap.size + 1, 2, none⟩) := hd 7 (by decide)
                rw [e7]
                go_wp2
                exact ⟨_, by simp only [putAll, fillL, hu2, e7] <;> rfl, kept0 (Below.refl _ _), rfl⟩
              · have e8 : u 8 = .pointer (some ⟨w.heap.size + 1, 3, none⟩) := hd 8 (by decide)
                rw [e8]
                go_wp2
                exact ⟨_, by simp only [putAll, fillL, hu2, e8] <;> rfl, kept0 (Below.refl _ _), rfl⟩
              · have e5 : u 5 = .int .i64 (k2 : Int) := hd 5 (by decide)
                rw [e5]
                have e9 : u 9 = .int .i64 (k3 : Int) := hd 9 (by decide)
                rw [e9]
                go_wp2
                exact ⟨_, by simp only [putAll, fillL, hu2, e5, e9] <;> rfl, kept0 (Below.refl _ _), rfl⟩
              · go_wp2
                exact ⟨_, by simp only [putAll, fillL, hu2] <;> rfl, kept0 (Below.refl _ _), rfl⟩
              · have e11 : u 11 = .int .i64 3 := hd 11 (by decide)
                rw [e11]
                go_wp2
                exact ⟨_, by simp only [putAll, fillL, hu2, e11] <;> rfl, kept0 (Below.refl _ _), rfl⟩
              · go_wp2
                exact ⟨_, by simp only [putAll, fillL, hu2] <;> rfl, kept0 (Below.refl _ _), rfl⟩
              · go_wp2
                exact ⟨_, by simp only [putAll, fillL, hu2] <;> rfl, kept0 (Below.refl _ _), rfl⟩
              · have e1 : u 1 = .agg #[.int .i64 r.x, .int .i64 r.y, .int .i64 r.w, .slice a4 r.r.length k4] := hd 1 (by decide)
                rw [e1]
                have e10 : u 10 = .int .i64 (x : Int) := hd 10 (by decide)
                rw [e10]
                have e12 : u 12 = .int .i64 1 := hd 12 (by decide)
                rw [e12]
                have e13 : u 13 = .int .i64 (ca : Int) := hd 13 (by decide)
                rw [e13]
                have e14 : u 14 = .int .i64 (cc : Int) := hd 14 (by decide)
                rw [e14]
                go_wp2_with fail
                refine (hqN.out ▸ c_at _ r x 1 ca cc 2 _ (h.below hall) hyy.out (by omega) (by rw [hlen.out]; omega) (by rw [(hl4.out _ (by omega)).1]; omega) (by omega)).mono ?_
                rintro e wn ⟨rfl, hbn⟩
                go_wp2
                exact ⟨_, by simp only [putAll, fillL, hu2, e1, e10, e12, e13, e14] <;> rfl, kept0 hbn, rfl⟩
              · go_wp2
                exact ⟨_, by simp only [putAll, fillL, hu2] <;> rfl, kept0 (Below.refl _ _), rfl⟩
              · have e15 : u 15 = .int .i64 qN := hd 15 (by decide)
                rw [e15]
                have e16 : u 16 = .int .i64 on := hd 16 (by decide)
                rw [e16]
                go_wp2
                exact ⟨_, by simp only [putAll, fillL, hu2, e15, e16] <;> rfl, kept0 (Below.refl _ _), rfl⟩
              · go_wp2
                exact ⟨_, by simp only [putAll, fillL, hu2] <;> rfl, kept0 (Below.refl _ _), rfl⟩
              · go_wp2
                exact ⟨_, by simp only [putAll, fillL, hu2] <;> rfl, kept0 (Below.refl _ _), rfl⟩
              · have e19 : u 19 = .pointer (some ⟨wr.heap.size, 0, none⟩) := hd 19 (by decide)
                rw [e19]
                go_wp2
                exact ⟨_, by simp only [putAll, fillL, hu2, e19] <;> rfl, kept0 (Below.refl _ _), rfl⟩
              · go_wp2
                exact ⟨_, by simp only [putAll, fillL, hu2] <;> rfl, kept0 (Below.refl _ _), rfl⟩
              · have e21 : u 21 = .pointer (some ⟨wr.heap.size, 1, none⟩) := hd 21 (by decide)
                rw [e21]
                go_wp2
                exact ⟨_, by simp only [putAll, fillL, hu2, e21] <;> rfl, kept0 (Below.refl _ _), rfl⟩
              · have e20 : u 20 = .int .i64 (n : Int) := hd 20 (by decide)
                rw [e20]
                have e22 : u 22 = .int .i64 (m : Int) := hd 22 (by decide)
                rw [e22]
                go_wp2
                exact ⟨_, by simp only [putAll, fillL, hu2, e20, e22] <;> rfl, kept0 (Below.refl _ _), rfl⟩
              · go_wp2
                exact ⟨_, by simp only [putAll, fillL, hu2] <;> rfl, kept0 (Below.refl _ _), rfl⟩
              · go_wp2
                exact ⟨_, by simp only [putAll, fillL, hu2] <;> rfl, kept0 (Below.refl _ _), rfl⟩
              · go_wp2
                exact ⟨_, by simp only [putAll, fillL, hu2] <;> rfl, kept0 (Below.refl _ _), rfl⟩
              · have e18 : u 18 = .agg #[.int .i64 r.x, .int .i64 r.y, .int .i64 r.w, .slice a4 r.r.length k4] := hd 18 (by decide)
                rw [e18]
                have e23 : u 23 = .int .i64 (dd : Int) := hd 23 (by decide)
                rw [e23]
                have e24 : u 24 = .int .i64 1 := hd 24 (by decide)
                rw [e24]
                have e25 : u 25 = .int .i64 (ce : Int) := hd 25 (by decide)
                rw [e25]
                have e26 : u 26 = .int .i64 (cf : Int) := hd 26 (by decide)
                rw [e26]
                go_wp2_with fail
                refine (hqD.out ▸ c_at _ r dd 1 ce cf 2 _ (h.below hall) hyy.out (by omega) (by rw [hlen.out]; omega) (by rw [(hl4.out _ (by omega)).1]; omega) (by omega)).mono ?_
                rintro e wn ⟨rfl, hbn⟩
                go_wp2
                exact ⟨_, by simp only [putAll, fillL, hu2, e18, e23, e24, e25, e26] <;> rfl, kept0 hbn, rfl⟩
              · have e17 : u 17 = .int .i64 (qN * on) := hd 17 (by decide)
                rw [e17]
                have e27 : u 27 = .int .i64 qD := hd 27 (by decide)
                rw [e27]
                go_wp2
                exact ⟨_, by simp only [putAll, fillL, hu2, e17, e27] <;> rfl, kept0 (Below.refl _ _), rfl⟩
              · exact absurd rfl hi
              · exact absurd rfl hi2
              · simp at ho
            · intro uu g w7 hbw hu2 hR hAp
              have e28 : uu 28 = .int .i64 (qN * on * qD) := hR 28 (by decide) (by decide) (by decide)
              have e0 : uu 0 = .int .i64 sm := hR 0 (by decide) (by decide) (by decide)
              replace hu2 : uu 30 = .int .i64 sm := hu2
              have hB7 := hB5.trans (hbw.mono (by omega))
              clear hR hAp n0 n1 y0 y1 y2 y3 z0 z1 z2 z3 hbw hB5 halld
              simp only [putAll, fillL]
              rw [hu2, e28, e0]
              clear hu2 e28 e0
              go_wp2
              go_roundw
              case rel => first | exact ⟨q + 1, by omega, by go_num, by rw [hst2.out], hB7⟩ | ((repeat apply Exists.intro); exact ⟨⟨q + 1, by omega, rfl, by rw [hst2.out], hB7⟩, rfl⟩)
              case measure => simp [intOf]; omega
          · have hE : r.w - o1 = on := by
              have : cd = 0 := by have := hz; simp at this; omega
              rw [hon.out, hsu.out, this]
            go_wp2_with fail
            try rw [hE]
            clear hE hz xuv
            refine wp_region_rkt (by kernel_rfl) [none, none, none, none, none, none, none, none, none, none, some 30, none, none, none, none, none, none, none, none, none, none, none, none, none, none, none, none, none, none, none, none, none, none, none, none, none, none, none, none, none, none, none, none, none, none, none, none, none, none, none, none, none, none, none, none, none, none, none, none, none, none, none, none, none, none, none, none, none, none, none, none, none, none, none, none, none, none, none, none, none, none, none, none, none, none, none, none, none, none, none, none, none, none, none, none, none, none, none, none, none, none, none, none, none, some 0, some 1, some 2, some 3, some 4, some 5, some 6, some 7, some 8, some 9, some 10, some 11, some 12, some 13, some 14, some 15, some 16, some 17, some 18, some 19, some 20, some 21, some 22, some 23, some 24, some 25, some 26, some 27, some 28, some 29] 29 30 (by kernel_rfl) (by kernel_rfl) (by kernel_rfl) _ _ rfl rfl 10 rfl w.heap.size [rkV (.int .i64 sm), rkV (.agg #[.int .i64 r.x, .int .i64 r.y, .int .i64 r.w, .slice a4 r.r.length k4]), rkV (.int .i64 1), rkV (.pointer (some ⟨w.heap.size + 1, 2, none⟩)), rkV (.pointer (some ⟨w.heap.size + 1, 2, none⟩)), rkV (.int .i64 (k2 : Int)), rkV (.int .i64 1), rkV (.pointer (some ⟨w.heap.size + 1, 2, none⟩)), rkV (.pointer (some ⟨w.heap.size + 1, 3, none⟩)), rkV (.int .i64 (k3 : Int)), rkV (.int .i64 (x : Int)), rkV (.int .i64 3), rkV (.int .i64 1), rkV (.int .i64 (ca : Int)), rkV (.int .i64 (cc : Int)), rkV (.int .i64 qN), rkV (.int .i64 on), rkV (.int .i64 (qN * on)), rkV (.agg #[.int .i64 r.x, .int .i64 r.y, .int .i64 r.w, .slice a4 r.r.length k4]), rkV (.pointer (some ⟨wr.heap.size, 0, none⟩)), rkV (.int .i64 (n : Int)), rkV (.pointer (some ⟨wr.heap.size, 1, none⟩)), rkV (.int .i64 (m : Int)), rkV (.int .i64 (dd : Int)), rkV (.int .i64 1), rkV (.int .i64 (ce : Int)), rkV (.int .i64 (cf : Int)), rkV (.int .i64 qD), rkV (.int .i64 (qN * on * qD))] _ rfl (by kernel_rfl) (by simp) ?_ ?_
            · intro i o ho hi hi2 u g ww hbw hu2 hd
              replace hu2 : u 30 = .int .i64 sm := hu2
              have hall : Below w.heap.size w ww := halld.trans (hbw.mono (by omega))
              have hlow : w.heap.size ≤ ww.heap.size := hall.size
              obtain ⟨hcl, hfr⟩ := bcell hbw
              have y_n0 := (hcl _ _ (by omega)).trans n0
              have y_n1 := (hcl _ _ (by omega)).trans n1
              have y_y0 := (hcl _ _ (by omega)).trans y0
              have y_y1 := (hcl _ _ (by omega)).trans y1
              have y_y2 := (hcl _ _ (by omega)).trans y2
              have y_y3 := (hcl _ _ (by omega)).trans y3
              have y_z0 := (hcl _ _ (by omega)).trans z0
              have y_z1 := (hcl _ _ (by omega)).trans z1
              have y_z2 := (hcl _ _ (by omega)).trans z2
              have y_z3 := (hcl _ _ (by omega)).trans z3
              clear hcl hfr
              rcases i with _ | _ | _ | _ | _ | _ | _ | _ | _ | _ | _ | _ | _ | _ | _ | _ | _ | _ | _ | _ | _ | _ | _ | _ | _ | _ | _ | _ | _ | _ | _ | i
              all_goals try obtain rfl := Option.some.inj ho
              all_goals try simp only [putAll, fillL]
              · rw [hu2]
                go_wp2
                exact ⟨_, by simp only [putAll, fillL, hu2] <;> rfl, kept0 (Below.refl _ _), rfl⟩
              · go_wp2
                exact ⟨_, by simp only [putAll, fillL, hu2] <;> rfl, kept0 (Below.refl _ _), rfl⟩
              · go_wp2
                exact ⟨_, by simp only [putAll, fillL, hu2] <;> rfl, kept0 (Below.refl _ _), rfl⟩
              · have e2 : u 2 = .int .i64 1 := hd 2 (by decide)
                rw [e2]
                go_wp2
                exact ⟨_, by simp only [putAll, fillL, hu2, e2] <;> rfl, kept0 (Below.refl _ _), rfl⟩
              · have e3 : u 3 = .pointer (some ⟨w.heap.size + 1, 2, none⟩) := hd 3 (by decide)
                rw [e3]
                go_wp2
                exact ⟨_, by simp only [putAll, fillL, hu2, e3] <;> rfl, kept0 (Below.refl _ _), rfl⟩
              · have e4 : u 4 = .pointer (some ⟨w.heap.size + 1, 2, none⟩) := hd 4 (by decide)
                rw [e4]
                go_wp2
                exact ⟨_, by simp only [putAll, fillL, hu2, e4] <;> rfl, kept0 (Below.refl _ _), rfl⟩
              · go_wp2
                exact ⟨_, by simp only [putAll, fillL, hu2] <;> rfl, kept0 (Below.refl _ _), rfl⟩
              · have e6 : u 6 = .int .i64 1 := hd 6 (by decide)
                rw [e6]
                go_wp2
                exact ⟨_, by simp only [putAll, fillL, hu2, e6] <;> rfl, kept0 (Below.refl _ _), rfl⟩
              · have e7 : u 7 = .pointer (some ⟨w.heap.size + 1, 2, none⟩) := hd 7 (by decide)
                rw [e7]
                go_wp2
                exact ⟨_, by simp only [putAll, fillL, hu2, e7] <;> rfl, kept0 (Below.refl _ _), rfl⟩
              · have e8 : u 8 = .pointer (some ⟨w.heap.size + 1, 3, none⟩) := hd 8 (by decide)
                rw [e8]
                go_wp2
                exact ⟨_, by simp only [putAll, fillL, hu2, e8] <;> rfl, kept0 (Below.refl _ _), rfl⟩
              · have e5 : u 5 = .int .i64 (k2 : Int) := hd 5 (by decide)
                rw [e5]
                have e9 : u 9 = .int .i64 (k3 : Int) := hd 9 (by decide)
                rw [e9]
                go_wp2
                exact ⟨_, by simp only [putAll, fillL, hu2, e5, e9] <;> rfl, kept0 (Below.refl _ _), rfl⟩
              · go_wp2
                exact ⟨_, by simp only [putAll, fillL, hu2] <;> rfl, kept0 (Below.refl _ _), rfl⟩
              · have e11 : u 11 = .int .i64 3 := hd 11 (by decide)
                rw [e11]
                go_wp2
                exact ⟨_, by simp only [putAll, fillL, hu2, e11] <;> rfl, kept0 (Below.refl _ _), rfl⟩
              · go_wp2
                exact ⟨_, by simp only [putAll, fillL, hu2] <;> rfl, kept0 (Below.refl _ _), rfl⟩
              · go_wp2
                exact ⟨_, by simp only [putAll, fillL, hu2] <;> rfl, kept0 (Below.refl _ _), rfl⟩
              · have e1 : u 1 = .agg #[.int .i64 r.x, .int .i64 r.y, .int .i64 r.w, .slice a4 r.r.length k4] := hd 1 (by decide)
                rw [e1]
                have e10 : u 10 = .int .i64 (x : Int) := hd 10 (by decide)
                rw [e10]
                have e12 : u 12 = .int .i64 1 := hd 12 (by decide)
                rw [e12]
                have e13 : u 13 = .int .i64 (ca : Int) := hd 13 (by decide)
                rw [e13]
                have e14 : u 14 = .int .i64 (cc : Int) := hd 14 (by decide)
                rw [e14]
                go_wp2_with fail
                refine (hqN.out ▸ c_at _ r x 1 ca cc 2 _ (h.below hall) hyy.out (by omega) (by rw [hlen.out]; omega) (by rw [(hl4.out _ (by omega)).1]; omega) (by omega)).mono ?_
                rintro e wn ⟨rfl, hbn⟩
                go_wp2
                exact ⟨_, by simp only [putAll, fillL, hu2, e1, e10, e12, e13, e14] <;> rfl, kept0 hbn, rfl⟩
              · go_wp2
                exact ⟨_, by simp only [putAll, fillL, hu2] <;> rfl, kept0 (Below.refl _ _), rfl⟩
              · have e15 : u 15 = .int .i64 qN := hd 15 (by decide)
                rw [e15]
                have e16 : u 16 = .int .i64 on := hd 16 (by decide)
                rw [e16]
                go_wp2
                exact ⟨_, by simp only [putAll, fillL, hu2, e15, e16] <;> rfl, kept0 (Below.refl _ _), rfl⟩
              · go_wp2
                exact ⟨_, by simp only [putAll, fillL, hu2] <;> rfl, kept0 (Below.refl _ _), rfl⟩
              · go_wp2
                exact ⟨_, by simp only [putAll, fillL, hu2] <;> rfl, kept0 (Below.refl _ _), rfl⟩
              · have e19 : u 19 = .pointer (some ⟨wr.heap.size, 0, none⟩) := hd 19 (by decide)
                rw [e19]
                go_wp2
                exact ⟨_, by simp only [putAll, fillL, hu2, e19] <;> rfl, kept0 (Below.refl _ _), rfl⟩
              · go_wp2
                exact ⟨_, by simp only [putAll, fillL, hu2] <;> rfl, kept0 (Below.refl _ _), rfl⟩
              · have e21 : u 21 = .pointer (some ⟨wr.heap.size, 1, none⟩) := hd 21 (by decide)
                rw [e21]
                go_wp2
                exact ⟨_, by simp only [putAll, fillL, hu2, e21] <;> rfl, kept0 (Below.refl _ _), rfl⟩
              · have e20 : u 20 = .int .i64 (n : Int) := hd 20 (by decide)
                rw [e20]
                have e22 : u 22 = .int .i64 (m : Int) := hd 22 (by decide)
                rw [e22]
                go_wp2
                exact ⟨_, by simp only [putAll, fillL, hu2, e20, e22] <;> rfl, kept0 (Below.refl _ _), rfl⟩
              · go_wp2
                exact ⟨_, by simp only [putAll, fillL, hu2] <;> rfl, kept0 (Below.refl _ _), rfl⟩
              · go_wp2
                exact ⟨_, by simp only [putAll, fillL, hu2] <;> rfl, kept0 (Below.refl _ _), rfl⟩
              · go_wp2
                exact ⟨_, by simp only [putAll, fillL, hu2] <;> rfl, kept0 (Below.refl _ _), rfl⟩
              · have e18 : u 18 = .agg #[.int .i64 r.x, .int .i64 r.y, .int .i64 r.w, .slice a4 r.r.length k4] := hd 18 (by decide)
                rw [e18]
                have e23 : u 23 = .int .i64 (dd : Int) := hd 23 (by decide)
                rw [e23]
                have e24 : u 24 = .int .i64 1 := hd 24 (by decide)
                rw [e24]
                have e25 : u 25 = .int .i64 (ce : Int) := hd 25 (by decide)
                rw [e25]
                have e26 : u 26 = .int .i64 (cf : Int) := hd 26 (by decide)
                rw [e26]
                go_wp2_with fail
                refine (hqD.out ▸ c_at _ r dd 1 ce cf 2 _ (h.below hall) hyy.out (by omega) (by rw [hlen.out]; omega) (by rw [(hl4.out _ (by omega)).1]; omega) (by omega)).mono ?_
                rintro e wn ⟨rfl, hbn⟩
                go_wp2
                exact ⟨_, by simp only [putAll, fillL, hu2, e18, e23, e24, e25, e26] <;> rfl, kept0 hbn, rfl⟩
              · have e17 : u 17 = .int .i64 (qN * on) := hd 17 (by decide)
                rw [e17]
                have e27 : u 27 = .int .i64 qD := hd 27 (by decide)
                rw [e27]
                go_wp2
                exact ⟨_, by simp only [putAll, fillL, hu2, e17, e27] <;> rfl, kept0 (Below.refl _ _), rfl⟩
              · exact absurd rfl hi
              · exact absurd rfl hi2
              · simp at ho
            · intro uu g w7 hbw hu2 hR hAp
              have e28 : uu 28 = .int .i64 (qN * on * qD) := hR 28 (by decide) (by decide) (by decide)
              have e0 : uu 0 = .int .i64 sm := hR 0 (by decide) (by decide) (by decide)
              replace hu2 : uu 30 = .int .i64 sm := hu2
              have hB7 := hB5.trans (hbw.mono (by omega))
              clear hR hAp n0 n1 y0 y1 y2 y3 z0 z1 z2 z3 hbw hB5 halld
              simp only [putAll, fillL]
              rw [hu2, e28, e0]
              clear hu2 e28 e0
              go_wp2
              go_roundw
              case rel => first | exact ⟨q + 1, by omega, by go_num, by rw [hst2.out], hB7⟩ | ((repeat apply Exists.intro); exact ⟨⟨q + 1, by omega, rfl, by rw [hst2.out], hB7⟩, rfl⟩)
              case measure => simp [intOf]; omega
      · have hst2 : Hid (sumT F (q + 1) = sm) := Lib.hid (by rw [hst.out, if_neg (by have := hg; simp at this; omega)]; omega)
        clear y0 y1 y2 y3 z0 z1 z2 z3
        go_wp2
        go_roundw
        case rel => first | exact ⟨q + 1, by omega, by go_num, by rw [hst2.out], hB2⟩ | ((repeat apply Exists.intro); exact ⟨⟨q + 1, by omega, rfl, by rw [hst2.out], hB2⟩, rfl⟩)
        case measure => simp [intOf]; omega
    · obtain rfl : q = 32 := by omega
      have hall := hA2.trans (hB.mono (by omega))
      go_wp2
      go_ret
      exact ⟨by rw [hRes.out]; rfl, hall⟩

theorem c_chainRight (v : Value) (r : BoxD) (k i : Nat) (w : World) (h : BoxR w v r) (hc : chainB r = true) (hk : k < 16) (hi : i < 4) :
    Calls Try.prog 79 #[v, .int .i64 k, .int .i64 i] w fun e w' => e = .returned (.int .i64 (rightV r k i)) ∧ Below w.heap.size w w' := by
  have hi4 : i = 0 ∨ i = 1 ∨ i = 2 ∨ i = 3 := by omega
  rcases hi4 with rfl | rfl | rfl | rfl
  · exact c_chainRight0 v r k w h hc hk
  · exact c_chainRight1 v r k w h hc hk
  · exact c_chainRight2 v r k w h hc hk
  · exact c_chainRight3 v r k w h hc hk
end Go.Proofs.Ytjeaeninpmaoiaa
