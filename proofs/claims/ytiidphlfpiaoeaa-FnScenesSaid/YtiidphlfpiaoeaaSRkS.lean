/- The rank of a scene: the reference's side; conditions: none. -/
import Derived.Test.YtiidphlfpiaoeaaSRkI
import Derived.Test.YtiidphlfpiaoeaaElim
import Derived.Deep.Cut
namespace Go.Proofs.Ytiidphlfpiaoeaa
open Go.RowKit

theorem OwnI.at0 {w : World} {B n cap : Nat} {ad : Option Addr} {xs : List Int} (h : OwnI w B (.slice ad n cap) xs) (h0 : 0 < xs.length) : ∃ g, ad = some ⟨g, 0, none⟩ ∧ B ≤ g ∧ g < w.heap.size := by
  rcases h.shape with ⟨-, e⟩ | ⟨g, c, e, h1, h2⟩
  · rw [e] at h0; exact absurd h0 (by simp)
  · injection e with e1
    exact ⟨g, e1, h1, h2⟩
theorem ownF_cell {w : World} {B g n cap m : Nat} {f : Nat → Nat} (h : OwnI w B (.slice (some ⟨g, 0, none⟩) n cap) (mapR (fun i => (f i : Int)) m)) (k : Nat) (hk : k < m) :
    w.cell? ⟨g, k, none⟩ = some (.int .i64 (f k : Int)) ∧ w.frozen? ⟨g, k, none⟩ = false := by
  obtain ⟨h1, h2⟩ := h.cell k (by rw [mapR_len]; exact hk)
  rw [mapR_get] at h1
  exact ⟨h1, h2⟩
theorem ownF_set {w : World} {B g n cap m : Nat} {f : Nat → Nat} (h : OwnI w B (.slice (some ⟨g, 0, none⟩) n cap) (mapR (fun i => (f i : Int)) m)) (k : Nat) (y : Nat) (f' : Nat → Nat) (hf : f' = fun i => if i = k then y else f i) :
    OwnI (w.setCell ⟨g, k, none⟩ (.int .i64 (y : Int))) B (.slice (some ⟨g, 0, none⟩) n cap) (mapR (fun i => (f' i : Int)) m) ∧ w.grownBy (w.setCell ⟨g, k, none⟩ (.int .i64 (y : Int))) (some g) := by
  obtain ⟨h1, h2⟩ := h.set k (y : Int)
  refine ⟨?_, h2⟩
  rw [mapR_set] at h1
  rw [hf]
  have e : (fun i => if i = k then (y : Int) else (f i : Int)) = fun i => (((if i = k then y else f i : Nat)) : Int) := by funext i; split <;> rfl
  rw [e] at h1
  exact h1
set_option maxRecDepth 100000 in
set_option maxHeartbeats 8000000 in
theorem c_spec_RankOfScene (v : Value) (s : SceneD) (w : World) (h : SceneR w v s) :
    Calls Try.prog 22 #[v] w fun e w' => e = .returned (.tuple #[.int .i64 (rankV s), .bool (sceneB s)]) ∧ Below w.heap.size w w' := by
  obtain ⟨v1, v2, rfl, hc, hsu⟩ := id h
  obtain ⟨a1, k1, rfl, l1⟩ := hc.out
  obtain ⟨a2, k2, rfl, l2, -⟩ := hsu.out
  have hA := (Below.refl w.heap.size w).alloc (Nat.le_refl _) (.cells #[.int .i64 s.n, .slice a1 s.c.length k1, .slice a2 s.s.length k2] 27)
  cases hs : sceneB s
  · have hF : Hid (rankV s = 0) := Lib.hid (by simp [rankV, hs])
    replace hs := Lib.hid hs
    go_enter Try.func22, Try.ntmps22
    go_wp2_with fail
    refine (c_l7Good _ s _ (h.below hA)).mono ?_
    rintro e w1 ⟨rfl, hb⟩
    rw [hs.out]
    have hA1 := hA.trans (hb.mono (by simp))
    go_wp2
    go_ret2
    exact ⟨by rw [hF.out]; rfl, hA1⟩
  · have hF : Hid (rankV s = (rankS s : Int)) := Lib.hid (by simp [rankV, hs])
    obtain ⟨n10, -, -⟩ := scene_len hs
    obtain ⟨n, en, hn⟩ := scene_n hs
    have h2n : 2 ^ n ≤ 4096 := Nat.pow_le_pow_right (n := 2) (by decide) hn
    obtain ⟨X, hX⟩ : ∃ X : Nat → Nat, X = fun i => (masksL s).getD i 0 := ⟨_, rfl⟩
    have hXm : masksL s = mapR X s.c.length := by
      refine List.ext_getElem (by simp [masksL, mapR]) fun i h1 h2 => ?_
      rw [mapR_get, hX]
      simp [List.getD, h1]
    have hXl : ∀ i, i < s.c.length → X i < 2 ^ n := fun i hi => by
      have h2 := (scene_ctx hs i hi).2
      have e1 : X i = maskN s.c[i] 0 := by rw [hX]; simp [masksL, List.getD, hi]
      rw [e1]
      exact maskN_lt _ _ n (Nat.pow_pos (by decide)) fun q hq => by have := risB_mem h2 q hq; omega
    have hRS : Hid (rankS s = (basN (mapR X s.c.length)).length) := Lib.hid (by unfold rankS; rw [hXm])
    have hXI : Hid ((masksL s).map (fun x : Nat => (x : Int)) = mapR (fun i => (X i : Int)) s.c.length) := Lib.hid (by rw [hXm]; simp [mapR, Function.comp_def])
    clear hX hXm
    have hE0 := Elim.start hXl
    replace hXl := Lib.hid hXl
    have h2n' := Lib.hid h2n
    clear h2n
    replace en := Lib.hid en
    replace hs := Lib.hid hs
    go_enter Try.func22, Try.ntmps22
    go_wp2_with fail
    refine (c_l7Good _ s _ (h.below hA)).mono ?_
    rintro e w0 ⟨rfl, hb⟩
    rw [hs.out]
    have pB : w0.heap[w.heap.size]? = some (.cells #[.int .i64 s.n, .slice a1 s.c.length k1, .slice a2 s.s.length k2] 27 (0, 0)) := blk_later hb (heap_alloc_at rfl)
    have hA1 := hA.trans (hb.mono (by simp))
    have hlb := (Array.getElem?_eq_some_iff.1 pB).1
    obtain ⟨⟨z0, z1, z2⟩, -⟩ := blk3 pB
    clear hb
    go_wp2_with fail
    refine (c_l7Rows _ s _ (h.below hA1) hs.out).mono ?_
    rintro e w1 ⟨vm, rfl, hvm, hb1⟩
    rw [hXI.out] at hvm
    have hz1 := hb1.size
    have hall0 : Below w.heap.size w w1 := bstep hA1 hb1
    obtain ⟨ad, cap, rfl, hlm, -⟩ := hvm.ints.out
    rw [mapR_len] at hvm ⊢
    replace pB := blk_later hb1 pB
    obtain ⟨m, hm⟩ : ∃ m, m = s.c.length := ⟨_, rfl⟩
    have hm10 : m ≤ 10 := by omega
    rw [← hm] at hvm hE0 hRS hXl ⊢
    replace hm := Lib.hid hm
    clear hb1 z0 z1 z2 hA1 hlm
    go_wp2_with fail
    go_loopw [5, 6] (fun rk ev wr => ∃ (e r : Nat) (f p : Nat → Nat), e ≤ n ∧ ev = .int .i64 e ∧ rk = .int .i64 r ∧ Elim n m X f e r p ∧ OwnI wr w0.heap.size (.slice ad m cap) (mapR (fun i => (f i : Int)) m) ∧ wr.heap[w.heap.size]? = some (.cells #[.int .i64 s.n, .slice a1 s.c.length k1, .slice a2 s.s.length k2] 27 (0, 0)) ∧ Below w.heap.size w wr) (fun _ ev _ => n - (intOf ev).toNat)
    case atStart => exact ⟨0, 0, X, _, Nat.zero_le _, rfl, rfl, hE0, hvm, pB, hall0⟩
    case round =>
      clear hvm hE0 pB hall0
      obtain ⟨e, r, f, p, he, rfl, rfl, hE, hO, pW, hB⟩ := hrel
      obtain ⟨⟨z0, z1, z2⟩, -⟩ := blk3 pW
      rw [en.out] at z0
      have hlw := (Array.getElem?_eq_some_iff.1 pW).1
      have hrm := hE.le
      have hfl : Hid (∀ i, i < m → f i < 4096) := Lib.hid fun i hi => Nat.lt_of_lt_of_le (hE.lt i hi) h2n'.out
      have hEh := Lib.hid hE
      clear hE
      by_cases hen : e < n
      · go_wp2_with fail
        go_loop [7] (fun kv => ∃ k : Nat, r ≤ k ∧ k ≤ m ∧ kv = .int .i64 k ∧ Hid (∀ i, r ≤ i → i < k → (f i).testBit e = false)) (fun kv => m - (intOf kv).toNat)
        case atStart => exact ⟨r, Nat.le_refl _, hrm, rfl, Lib.hid fun i h1 h2 => by omega⟩
        case round =>
          obtain ⟨k, hrk, hkm, rfl, hno⟩ := hrel
          by_cases hlt : k < m
          · obtain ⟨g, rfl, hg0, hg1⟩ := hO.at0 (by rw [mapR_len]; omega)
            obtain ⟨ck, fk⟩ := ownF_cell hO k hlt
            obtain ⟨cr, fr⟩ := ownF_cell hO r (by omega)
            have hkl := hfl.out k hlt
            have hrl := hfl.out r (by omega)
            have hand : Hid (bits .and .i64 ((f k : Int) / 2 ^ e) 1 = bitAt e (f k)) := Lib.hid (and1_div (f k) e (by omega))
            cases hx : (f k).testBit e
            · have hx2 : (bits .and .i64 ((f k : Int) / 2 ^ e) 1 == 0) = true := by
                rw [hand.out]
                have := bitAt_test e (f k)
                rw [hx] at this
                have h01 := bitAt_01 e (f k)
                simp only [beq_eq_false_iff_ne] at this
                rcases h01 with h | h
                · rw [h]; rfl
                · exact absurd h this
              have hno' : Hid (∀ i, r ≤ i → i < k + 1 → (f i).testBit e = false) := Lib.hid fun i h1 h2 => by
                rcases Nat.lt_or_eq_of_le (show i ≤ k by omega) with h3 | h3
                · exact hno.out i h1 h3
                · subst h3; exact hx
              replace hx := Lib.hid hx
              go_wp2
              go_round
              case rel => exact ⟨k + 1, by omega, by omega, by go_num, hno'⟩
              case measure => simp [intOf]; omega
            · have hx2 : (bits .and .i64 ((f k : Int) / 2 ^ e) 1 == 0) = false := by
                rw [hand.out]
                have := bitAt_test e (f k)
                rw [hx] at this
                rw [beq_iff_eq.1 this]; rfl
              have hE1 := Lib.hid (hEh.out.swap ⟨hrk, hlt⟩)
              have hrow : Hid (swpF f k r r = f k) := Lib.hid (by unfold swpF; rw [if_pos rfl])
              have hbr : Hid ((swpF f k r r).testBit e = true) := Lib.hid (by rw [hrow.out]; exact hx)
              obtain ⟨hO1, hg1'⟩ := ownF_set hO k (f r) (fun i => if i = k then f r else f i) rfl
              obtain ⟨hO2, hg2'⟩ := ownF_set hO1 r (f k) (swpF f k r) (by funext i; rfl)
              obtain ⟨cr2, fr2⟩ := ownF_cell hO1 r (by omega)
              have hz2 := hg1'.size
              have hz3 := hg2'.size
              have hB2 : Below w.heap.size w ((wr.setCell ⟨g, k, none⟩ (.int .i64 (f r : Int))).setCell ⟨g, r, none⟩ (.int .i64 (f k : Int))) := (hB.grown hg1' (by omega) (fun k hk => by injection hk with hk; omega)).grown hg2' (by omega) (fun k hk => by injection hk with hk; omega)
              have pW2 : ((wr.setCell ⟨g, k, none⟩ (.int .i64 (f r : Int))).setCell ⟨g, r, none⟩ (.int .i64 (f k : Int))).heap[w.heap.size]? = _ := (keptOff_set _ g r _).block _ (by omega) (by omega) |>.trans (((keptOff_set wr g k _).block _ hlw (by omega)).trans pW)
              clear hO hO1 hno hg1' hg2' hB hEh
              obtain ⟨f1, hf1⟩ : ∃ f1, f1 = swpF f k r := ⟨_, rfl⟩
              rw [← hf1] at hE1 hrow hbr hO2
              have hf1l : Hid (∀ i, i < m → f1 i < 4096) := Lib.hid fun i hi => Nat.lt_of_lt_of_le (hE1.out.lt i hi) h2n'.out
              replace hf1 := Lib.hid hf1
              replace hx := Lib.hid hx
              go_upto_region 15 with fail
              obtain ⟨wt, hwt⟩ : ∃ z, z = (wr.setCell ⟨g, k, none⟩ (.int .i64 (f r : Int))).setCell ⟨g, r, none⟩ (.int .i64 (f k : Int)) := ⟨_, rfl⟩
              rw [← hwt] at hO2 hB2 pW2 ⊢
              have hzt : wr.heap.size ≤ wt.heap.size := by rw [hwt]; omega
              clear hwt ck fk cr fr cr2 fr2 z0 z1 z2 hz2 hz3
              go_wp2_with fail
              go_loopw [9] (fun iv wx => ∃ q : Nat, r + 1 ≤ q ∧ q ≤ m ∧ iv = .int .i64 q ∧ OwnI wx w0.heap.size (.slice (some ⟨g, 0, none⟩) m cap) (mapR (fun i => (clrF f1 e r q i : Int)) m) ∧ wx.heap[w.heap.size]? = some (.cells #[.int .i64 s.n, .slice a1 s.c.length k1, .slice a2 s.s.length k2] 27 (0, 0)) ∧ Below w.heap.size w wx) (fun iv _ => m - (intOf iv).toNat)
              case atStart => exact ⟨r + 1, Nat.le_refl _, by omega, by go_num, by rw [clr_start]; exact hO2, pW2, hB2⟩
              case round =>
                obtain ⟨q, hq1, hqm, rfl, hO3, pX, hBx⟩ := hrel
                have hlx := (Array.getElem?_eq_some_iff.1 pX).1
                by_cases hqlt : q < m
                · obtain ⟨cq, fq⟩ := ownF_cell hO3 q hqlt
                  rw [clr_at] at cq
                  have hql := hf1l.out q hqlt
                  have hand2 : Hid (bits .and .i64 ((f1 q : Int) / 2 ^ e) 1 = bitAt e (f1 q)) := Lib.hid (and1_div (f1 q) e (by omega))
                  cases hy : (f1 q).testBit e
                  · have hy2 : (bits .and .i64 ((f1 q : Int) / 2 ^ e) 1 == 1) = false := by rw [hand2.out, bitAt_test]; exact hy
                    have hn3 := Lib.hid (clr_no (f := f1) (e := e) (r := r) (q := q) hy)
                    replace hy := Lib.hid hy
                    go_wp2
                    go_roundw
                    case rel => exact ⟨q + 1, by omega, by omega, by go_num, by rw [hn3.out]; exact hO3, pX, hBx⟩
                    case measure => simp [intOf]; omega
                  · have hy2 : (bits .and .i64 ((f1 q : Int) / 2 ^ e) 1 == 1) = true := by rw [hand2.out, bitAt_test]; exact hy
                    have hxor : bits .xor .i64 (f1 q : Int) (f k : Int) = ((f1 q ^^^ f k : Nat) : Int) := i64_xor_nat _ _ (by omega) (by omega)
                    have hn3 := clr_yes (f := f1) (e := e) (r := r) (q := q) hy (by omega)
                    rw [hrow.out] at hn3
                    obtain ⟨hO4, hg4⟩ := ownF_set hO3 q (f1 q ^^^ f k) _ hn3
                    have hB4 := hBx.grown hg4 (by omega) (fun k hk => by injection hk with hk; omega)
                    have pX4 := ((keptOff_set _ g q (.int .i64 ((f1 q ^^^ f k : Nat) : Int))).block _ hlx (by omega)).trans pX
                    replace hn3 := Lib.hid hn3
                    replace hy := Lib.hid hy
                    clear hg4
                    go_wp2
                    go_roundw
                    case rel => exact ⟨q + 1, by omega, by omega, by go_num, hO4, pX4, hB4⟩
                    case measure => simp [intOf]; omega
                · obtain rfl : q = m := by omega
                  have hE2 := hE1.out.clear (by omega) hen hbr.out
                  go_wp2
                  go_roundw
                  case rel => exact ⟨e + 1, r + 1, _, _, by omega, by go_num, by go_num, hE2, hO3, pX, hBx⟩
                  case measure => simp [intOf]; omega
          · obtain rfl : k = m := by omega
            have hE2 := hEh.out.skip hno.out
            go_wp2
            go_roundw
            case rel => exact ⟨e + 1, r, f, p, by omega, by go_num, rfl, hE2, hO, pW, hB⟩
            case measure => simp [intOf]; omega
      · obtain rfl : e = n := by omega
        have hfin : Hid (rankV s = (r : Int)) := Lib.hid (by rw [hF.out, hRS.out, hEh.out.rank hXl.out rfl])
        go_wp2
        go_ret2
        exact ⟨by rw [hfin.out]; rfl, hB⟩
end Go.Proofs.Ytiidphlfpiaoeaa
