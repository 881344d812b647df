/- A box with other answers: the reference's side; conditions: none. -/
import Derived.Test.YtjeaeninpmaoiaaJ14
import Derived.Test.YtjeaeninpmaoiaaJ2
import Derived.BigRegion
namespace Go.Proofs.Ytjeaeninpmaoiaa
open Go.RowKit

theorem xor_four (k pa pb : Nat) (hk : k < 4) (ha : pa ≤ 1) (hb : pb ≤ 1) : bits BinOp.xor IntKind.i64 (k : Int) (2 * (pa : Int) + (pb : Int)) = ((k ^^^ (2 * pa + pb) : Nat) : Int) ∧ k ^^^ (2 * pa + pb) < 4 := by
  have : ∀ k : Nat, k < 4 → ∀ pa : Nat, pa < 2 → ∀ pb : Nat, pb < 2 → (bits BinOp.xor IntKind.i64 (k : Int) (2 * (pa : Int) + (pb : Int)) = ((k ^^^ (2 * pa + pb) : Nat) : Int) ∧ k ^^^ (2 * pa + pb) < 4) := by decide +kernel
  exact this k hk pa (by omega) pb (by omega)
set_option maxRecDepth 100000 in
set_option maxHeartbeats 8000000 in
theorem c_l2Flip (v pv : Value) (b : BoxD) (pl : List Int) (X Y : Nat) (hX : X ≤ 3) (hY : Y ≤ 3) (w : World) (hb : BoxR w v b) (hbx : b.x = X) (hby : b.y = Y) (hsb : Sh b (X * Y)) (h : Ints w pv pl) (hl : pl.length = X + Y) (h01 : ∀ x ∈ pl, x = 0 ∨ x = 1) :
    Calls Try.prog 102 #[v, pv] w fun e w' => ∃ v' r, e = .returned v' ∧ BoxO w' w.heap.size v' r ∧ (r.x = X ∧ r.y = Y ∧ Sh r (X * Y)) ∧ Below w.heap.size w w' := by
  obtain ⟨ad, cap, rfl, hcap, -⟩ := h.out
  have hbit : Hid (∀ i (hi : i < pl.length), ∃ b : Nat, b ≤ 1 ∧ pl[i] = (b : Int)) := Lib.hid fun i hi => by
    rcases h01 _ (List.getElem_mem hi) with e | e
    · exact ⟨0, by omega, e⟩
    · exact ⟨1, by omega, e⟩
  replace h01 := Lib.hid h01
  have hN : X * Y ≤ 9 := Nat.mul_le_mul hX hY
  replace hN := Lib.hid hN
  have hlen0 : ∀ (i k : Nat), i < X → k < Y → i * Y + k < X * Y := fun i k h1 h2 => by
    have h3 : i * Y + k < (i + 1) * Y := by rw [Nat.add_mul]; omega
    have h4 : (i + 1) * Y ≤ X * Y := Nat.mul_le_mul_right _ h1
    omega
  replace hlen0 := Lib.hid hlen0
  obtain ⟨L, hL⟩ : ∃ z, z = pl.length := ⟨_, rfl⟩
  have hLX : X + Y = L := by omega
  rw [← hL] at h ⊢
  replace hL := Lib.hid hL
  have hbR := hb
  obtain ⟨vb, rfl, hrb⟩ := hb
  obtain ⟨db, kb, rfl, hlb⟩ := hrb.out
  obtain ⟨nb, hnb⟩ : ∃ z, z = b.r.length := ⟨_, rfl⟩
  obtain ⟨bw, hbw⟩ : ∃ z, z = b.w := ⟨_, rfl⟩
  rw [hbx, hby, ← hnb, ← hbw] at hbR ⊢
  have hnX : Hid (b.r.length = X * Y) := Lib.hid hsb.1
  have hw4 := Lib.hid hsb.2
  clear hsb hrb hbw hlb
  replace hnb := Lib.hid hnb
  replace hby' := Lib.hid hby
  have hA0 := ((Below.refl w.heap.size w).alloc (Nat.le_refl _) (.cells #[.int .i64 (X : Int), .int .i64 (Y : Int), .int .i64 bw, .slice db nb kb] 50)).alloc (by simp) (.cells #[.int .i64 0, .int .i64 0, .int .i64 0, .slice none 0 0] 50)
  obtain ⟨w0, hw0⟩ : ∃ z, z = (w.alloc (.cells #[.int .i64 (X : Int), .int .i64 (Y : Int), .int .i64 bw, .slice db nb kb] 50)).alloc (.cells #[.int .i64 0, .int .i64 0, .int .i64 0, .slice none 0 0] 50) := ⟨_, rfl⟩
  have hz0 : w0.heap.size = w.heap.size + 1 + 1 := by rw [hw0]; simp
  have pa : w0.heap[w.heap.size]? = some (.cells #[.int .i64 (X : Int), .int .i64 (Y : Int), .int .i64 bw, .slice db nb kb] 50 (0, 0)) := by rw [hw0, heap_alloc_old _ _ (by simp)]; exact heap_alloc_at rfl
  have p0 : w0.heap[w.heap.size + 1]? = some (.cells #[.int .i64 0, .int .i64 0, .int .i64 0, .slice none 0 0] 50 (0, 0)) := by rw [hw0]; exact heap_alloc_at (by simp)
  rw [← hw0] at hA0
  have hpl := h.below hA0
  have hbR0 := hbR.below hA0
  clear hbR h hbx hby
  go_enter Try.func102, Try.ntmps102
  go_upto_region 1 with fail
  rw [← hw0]
  clear hw0
  obtain ⟨⟨x0, x1, x2, x3⟩, -⟩ := blk4 pa
  go_upto_region 2 with fail
  clear x0 x1 x2 x3
  have hz0' : w.heap.size + 1 < w0.heap.size := by omega
  have hAe := (Below.refl w0.heap.size w0).alloc (Nat.le_refl _) (.cells #[] 26)
  obtain ⟨hX, hAb⟩ := boxX_new (x := (X : Int)) (y := (Y : Int)) (n := bw) (rows0_empty w0) (by simp)
  have hkr : KeptOff (fun k => w0.heap.size ≤ k) w0 _ := (keptOfB (hAe.trans (hAb.mono (by simp))) (by simp; omega))
  simp only [World.size_alloc] at hX
  rw [hz0] at hX hkr
  go_upto_region 2 with fail
  obtain ⟨lo, hlo⟩ : ∃ z, z = w.heap.size + 1 + 1 := ⟨_, rfl⟩
  obtain ⟨bb, hbb⟩ : ∃ z, z = lo + 1 := ⟨_, rfl⟩
  rw [← hlo, ← hbb] at hX ⊢
  rw [← hlo] at hkr
  obtain ⟨w3, hw3⟩ : ∃ z, z = (w0.alloc (.cells #[] 26)).alloc (.cells #[.int .i64 (X : Int), .int .i64 (Y : Int), .int .i64 bw, .slice (some ⟨lo, 0, none⟩) 0 0] 50) := ⟨_, rfl⟩
  rw [← hw3] at hX hkr ⊢
  have hq1 : w.heap.size < lo ∧ lo ≤ w0.heap.size ∧ w0.heap.size ≤ lo ∧ lo < bb := by omega
  clear hw3 hAe hAb hlo hbb hz0
  obtain ⟨rc, hrc⟩ : ∃ z, z = w.heap.size + 1 := ⟨_, rfl⟩
  rw [← hrc] at p0 ⊢
  have hq2 : w.heap.size < rc ∧ rc < lo ∧ rc < w0.heap.size := by omega
  clear hrc
  go_wp2_with fail
  go_loopw [6] (fun i wr => ∃ (j : Nat) (rs : List (List Int)) (rv : Value), j ≤ X ∧ i = .int .i64 j ∧ BoxX wr lo bb rv ⟨X, Y, bw, rs⟩ ∧ Hid (Sh ⟨X, Y, bw, rs⟩ (j * Y)) ∧ KeptOff (fun q => lo ≤ q) w0 wr) (fun i _ => X - (intOf i).toNat)
  case atStart => exact ⟨0, [], _, Nat.zero_le _, rfl, hX, Lib.hid (by rw [Nat.zero_mul]; exact sh_nil _ _ _), hkr⟩
  case round =>
    clear hX hkr
    obtain ⟨j, rs, rv, hj, rfl, hX, hsh, hkr⟩ := hrel
    have hzr := hkr.size
    have pa1 := (hkr.block w.heap.size (by omega) (by omega)).trans pa
    obtain ⟨⟨x0, x1, x2, x3⟩, -⟩ := blk4 pa1
    have hlw0 := hX.lt
    have hll0 := hX.low
    by_cases hjX : j < X
    · have hd : decide ((j : Int) < (X : Int)) = true := by simp; omega
      go_wp2_with fail
      go_loopw [7] (fun i wr => ∃ (k : Nat) (rs : List (List Int)) (rv : Value), k ≤ Y ∧ i = .int .i64 k ∧ BoxX wr lo bb rv ⟨X, Y, bw, rs⟩ ∧ Hid (Sh ⟨X, Y, bw, rs⟩ (j * Y + k)) ∧ KeptOff (fun q => lo ≤ q) w0 wr) (fun i _ => Y - (intOf i).toNat)
      case atStart => exact ⟨0, rs, rv, Nat.zero_le _, rfl, hX, hsh, hkr⟩
      case round =>
        clear hX hkr hsh pa1 x0 x1 x2 x3 hlw0 hll0 hzr
        obtain ⟨k, rs, rv, hk, rfl, hX, hsh, hkr⟩ := hrel
        have hlw := hX.lt
        have hll := hX.low
        have hzr := hkr.size
        have pa1 := (hkr.block w.heap.size (by omega) (by omega)).trans pa
        obtain ⟨⟨x0, x1, x2, x3⟩, -⟩ := blk4 pa1
        have hw0r : Below w0.heap.size w0 wr := hkr.below (B := w0.heap.size) (fun g e => by omega) (Nat.le_refl _)
        by_cases hkY : k < Y
        · have hd2 : decide ((k : Int) < (Y : Int)) = true := by simp; omega
          have hlen : rs.length < 1099511627776 := by have := hsh.out.1; have := hlen0.out j k hjX hkY; have := hN.out; simp at *; omega
          obtain ⟨wo, rfl⟩ : ∃ wo : World, wo = wr := ⟨_, rfl⟩
          have hplo := hpl.below hw0r
          obtain ⟨v0, hv0, hrow⟩ := at_l2Row _ b j k Y wo (hbR0.below hw0r) hby'.out ⟨by omega, by omega, hY⟩ (by have := hlen0.out j k hjX hkY; have := hnX.out; omega)
          have hv4 : (rowB b (j * Y + k)).length = 4 := by
            have hq : j * Y + k < b.r.length := by have := hlen0.out j k hjX hkY; have := hnX.out; omega
            have : rowB b (j * Y + k) = b.r[j * Y + k] := by simp [rowB, hq]
            rw [this]; exact hw4.out _ (List.getElem_mem _)
          obtain ⟨rb, hrb⟩ : ∃ z, z = rowB b (j * Y + k) := ⟨_, rfl⟩
          rw [← hrb] at hv0 hv4
          clear hrb
          obtain ⟨av, cv, rfl, -, -⟩ := hv0.out
          rw [hv4] at hv0 hrow
          replace hv4 := Lib.hid hv4
          replace hrow := Lib.hid hrow
          go_wp2_with fail
          have hlw1 : w.heap.size < wo.heap.size := by omega
          refine wp_region_rk (by kernel_rfl) [none, none, none, none, none, none, none, none, some 5, some 6, none, none, none, none, none, none, none, none, none, none, none, none, none, none, none, none, none, none, none, none, none, some 0, some 1, some 2, some 3, some 4] 6 (by kernel_rfl) (by kernel_rfl) (by kernel_rfl) _ rfl wo.heap.size [rkV (.agg #[.int .i64 (X : Int), .int .i64 (Y : Int), .int .i64 bw, .slice db nb kb]), rkV (.int .i64 j), rkV (.int .i64 k), rkV (.slice av 4 cv), rkL (List.replicate 4 0), rkV (.slice av 4 cv)] _ rfl (by kernel_rfl) (by simp) ?_ ?_
          · intro i o ho hi u g ww hbw hd
            have hall : Below wo.heap.size wo ww := hbw
            have hlow : wo.heap.size ≤ ww.heap.size := hall.size
            obtain ⟨hcl, hfr⟩ := bcell hbw
            have y_x0 := (hcl _ _ (by omega)).trans x0
            have y_x1 := (hcl _ _ (by omega)).trans x1
            have y_x2 := (hcl _ _ (by omega)).trans x2
            have y_x3 := (hcl _ _ (by omega)).trans x3
            clear hcl hfr
            rcases i with _ | _ | _ | _ | _ | _ | _ | i
            all_goals try obtain rfl := Option.some.inj ho
            all_goals try simp only [putAll, fillL]
            · go_wp2
              exact ⟨_, rfl, kept0 (Below.refl _ _), rfl⟩
            · go_wp2
              exact ⟨_, rfl, kept0 (Below.refl _ _), rfl⟩
            · go_wp2
              exact ⟨_, rfl, kept0 (Below.refl _ _), rfl⟩
            · have e0 : u 0 = .agg #[.int .i64 (X : Int), .int .i64 (Y : Int), .int .i64 bw, .slice db nb kb] := hd 0 (by decide)
              rw [e0]
              have e1 : u 1 = .int .i64 j := hd 1 (by decide)
              rw [e1]
              have e2 : u 2 = .int .i64 k := hd 2 (by decide)
              rw [e2]
              go_wp2_with fail
              refine (hrow.out _ hbw).mono ?_
              rintro e wn ⟨rfl, hbn⟩
              go_wp2
              exact ⟨_, by simp only [putAll, fillL, e0, e1, e2] <;> rfl, kept0 hbn, rfl⟩
            · refine wp_make_int _ rfl _ _ rfl 4 rfl rfl (by omega) ?_
              intro wn h1n h2n h3n
              go_wp2
              exact ⟨_, rfl, kept0 h2n, ⟨h1n.mono hlow, h1n.le, OwnS.lt h1n⟩⟩
            · have e3 : u 3 = .slice av 4 cv := hd 3 (by decide)
              rw [e3]
              go_wp2
              exact ⟨_, by simp only [putAll, fillL, e3] <;> rfl, kept0 (Below.refl _ _), rfl⟩
            · exact absurd rfl hi
            · simp at ho
          · intro u g w5 hbw hR hAp
            have R4 : OwnF w5 wo.heap.size (InI (g 4)) (u 4) (List.replicate 4 0) := hR 4 (by decide) (by decide)
            have e3 : u 3 = .slice av 4 cv := hR 3 (by decide) (by decide)
            have e0 : u 0 = .agg #[.int .i64 (X : Int), .int .i64 (Y : Int), .int .i64 bw, .slice db nb kb] := hR 0 (by decide) (by decide)
            have e1 : u 1 = .int .i64 j := hR 1 (by decide) (by decide)
            have e2 : u 2 = .int .i64 k := hR 2 (by decide) (by decide)
            have e5 : u 5 = .slice av 4 cv := hR 5 (by decide) (by decide)
            have hO4 := R4.1
            rcases hO4.shape with ⟨-, e⟩ | ⟨g4, c4, e4, hg4, hg5⟩
            · exact absurd e (by simp)
            rw [e4] at hO4
            simp only [List.length_replicate] at hO4 e4
            obtain ⟨ts, hts⟩ : ∃ z, z = List.replicate 4 (0 : Int) := ⟨_, rfl⟩
            have htl : ts.length = 4 := by rw [hts]; simp
            rw [← hts] at hO4
            clear hts hR hAp R4
            simp only [putAll, fillL]
            rw [e0, e1, e2, e3, e4, e5]
            clear e0 e1 e2 e3 e4 e5
            have hz5 := hbw.size
            have hb0 := hbw
            go_upto_region 10 with fail
            go_loopw [10] (fun i wr => ∃ (q : Nat) (ts : List Int), q ≤ 4 ∧ i = .int .i64 q ∧ OwnI wr wo.heap.size (.slice (some ⟨g4, 0, none⟩) 4 c4) ts ∧ Hid (ts.length = 4) ∧ Below wo.heap.size wo wr) (fun i _ => 4 - (intOf i).toNat)
            case atStart => exact ⟨0, ts, by omega, rfl, hO4, Lib.hid htl, hbw⟩
            case round =>
              clear hO4 hbw hb0 htl
              obtain ⟨q, ts, hq, rfl, hO, htl, hBo⟩ := hrel
              have hszo := hBo.size
              by_cases hq4 : q < 4
              · have hd3 : decide ((q : Int) < 4) = true := by simp; omega
                obtain ⟨f1, hf1, hfe1⟩ := hbit.out j (by have := hL.out; omega)
                obtain ⟨f2, hf2, hfe2⟩ := hbit.out (X + k) (by have := hL.out; omega)
                obtain ⟨bp, op, rfl, hbp, cpa⟩ := hplo.at j (by have := hL.out; omega)
                obtain ⟨bp2, op2, e2, -, cpb⟩ := hplo.at (X + k) (by have := hL.out; omega)
                simp only [Option.some.injEq, Addr.mk.injEq, and_true] at e2
                obtain ⟨rfl, rfl⟩ := e2
                rw [hfe1] at cpa
                rw [hfe2] at cpb
                obtain ⟨br, orr, rfl, hbr, crv⟩ := hv0.at q (by have := hv4.out; omega)
                obtain ⟨xv, hxv⟩ : ∃ z, z = rb[q]'(by have := hv4.out; omega) := ⟨_, rfl⟩
                rw [← hxv] at crv
                have cpa5 := ((bcell hBo).1 _ _ hbp).trans cpa
                have cpb5 := ((bcell hBo).1 _ _ hbp).trans cpb
                have crv5 := ((bcell hBo).1 _ _ hbr).trans crv
                obtain ⟨⟨s0, s1, s2, s3⟩, -⟩ := blk4 (blk_later hBo pa1)
                obtain ⟨hxr, hx4⟩ := xor_four q f1 f2 hq4 hf1 hf2
                obtain ⟨ix, hix⟩ : ∃ z, z = q ^^^ (2 * f1 + f2) := ⟨_, rfl⟩
                rw [← hix] at hxr hx4
                clear hix
                obtain ⟨cq, fq⟩ := OwnI.cell hO ix (by have := htl.out; omega)
                obtain ⟨hs1, hs2⟩ := OwnI.set hO ix xv
                have hg4' := (OwnS.lt hO g4 rfl).1
                have hB6 := hBo.grown hs2 (by omega) (fun g e => by injection e with e; omega)
                have hlw1 : w.heap.size < wr.heap.size := by omega
                clear hfe1 hfe2 cpa cpb crv hxv hs2 hO hBo
                go_wp2_with fail
                go_region
                obtain ⟨wa, hwa⟩ : ∃ z, z = (wr.setCell ⟨g4, ix, none⟩ (.int .i64 xv)).drew := ⟨_, rfl⟩
                have hO7 : OwnI wa wo.heap.size (.slice (some ⟨g4, 0, none⟩) 4 c4) (ts.set ix xv) := by rw [hwa]; exact OwnI.below hs1 (Below.refl _ _).drew
                have hB7 : Below wo.heap.size wo wa := by rw [hwa]; exact hB6.drew
                rw [← hwa]
                clear hwa cq fq cpa5 cpb5 crv5 s0 s1 s2 s3 hs1 hB6 hxr
                go_wp2
                go_roundw
                case rel => exact ⟨q + 1, ts.set ix xv, by omega, by go_num, hO7, Lib.hid (by rw [List.length_set]; exact htl.out), hB7⟩
                case measure => simp [intOf]; omega
              · obtain rfl : q = 4 := by omega
                have htl4 := htl.out
                have hXA := hX.below hBo
                have hRA := OwnR.below hX.row hBo
                have hkA := hkr.trans ((kept0 hBo).mono fun _ f => f.elim)
                have hdis : ∀ g, (Value.slice (some ⟨g4, 0, none⟩) 4 c4).ownBlock = some g → ¬ (lo ≤ g ∧ g < wo.heap.size) := fun g e f => by have := OwnS.lt hO g e; omega
                clear hX hkr
                go_upto_region 13 with fail
                have hbA := hXA.box
                obtain ⟨⟨y0, y1, y2, y3⟩, g0, g1, g2, g3⟩ := blk4 hbA
                clear y0 y1 y2 g0 g1 g2 g3
                go_wp2_with (at_builtin; refine wp_append_row _ (.slice (some ⟨g4, 0, none⟩) 4 c4) rfl _ _ rfl lo _ _ _ rfl hRA ts (hO.mono (by omega)) hdis rfl (by first | rfl | simp) hlen (by omega) ?_; intro v5 w5 hn5 hg5 hB5 _; obtain ⟨a5, k5, rfl, -⟩ := (OwnR.rows hn5).out; simp only [List.length_append, List.length_singleton] at hn5; have hb5 := hXA.grown hg5; have hr5 := Lib.hid (hXA.r ts hn5 hg5); obtain ⟨⟨x0, x1, x2, x3⟩, f0, f1, f2, f3⟩ := blk4 hb5; clear x0 x1 x2 f0 f1 f2)
                go_roundw
                case rel => exact ⟨k + 1, rs ++ [ts], _, by omega, by go_num, hr5.out.1, Lib.hid (by have := sh_snoc (x' := X) (y' := Y) (w' := bw) hsh.out htl4; rwa [Nat.add_assoc] at this), hkA.trans hr5.out.2⟩
                case measure => simp [intOf]; omega
        · obtain rfl : k = Y := by omega
          have hd2 : decide ((k : Int) < (k : Int)) = false := by simp
          go_wp2
          go_roundw
          case rel => exact ⟨j + 1, rs, rv, by omega, by go_num, hX, Lib.hid (by rw [Nat.add_mul, Nat.one_mul]; exact hsh.out), hkr⟩
          case measure => simp [intOf]; omega
    · obtain rfl : j = X := by omega
      have hd : decide ((j : Int) < (j : Int)) = false := by simp
      go_upto_region 14 with fail
      clear x0 x1 x2 x3
      have pz := (hkr.block rc (by omega) (by omega)).trans p0
      obtain ⟨a7, c7, rfl, -⟩ := (OwnR.rows hX.row).out
      obtain ⟨n7, hn7⟩ : ∃ n, n = rs.length := ⟨_, rfl⟩
      obtain ⟨⟨b0, b1, b2, b3⟩, -⟩ := blk4 (show wr.heap[bb]? = some (.cells #[.int .i64 (j : Int), .int .i64 (Y : Int), .int .i64 bw, .slice a7 rs.length c7] 50 (0, 0)) from hX.box)
      obtain ⟨⟨c0, c1, c2, c3⟩, g0, g1, g2, g3⟩ := blk4 pz
      have hO : BoxO wr lo (.agg #[.int .i64 (j : Int), .int .i64 (Y : Int), .int .i64 bw, .slice a7 rs.length c7]) ⟨(j : Int), (Y : Int), bw, rs⟩ := hX.o
      rw [← hn7] at b3 hO
      obtain ⟨⟨⟨q0, q1⟩, q2, q3⟩, -, hk4⟩ := storedB pz (.int .i64 (j : Int)) (.int .i64 (Y : Int)) (.int .i64 bw) (.slice a7 n7 c7)
      replace q0 := Lib.hid q0
      replace q1 := Lib.hid q1
      replace q2 := Lib.hid q2
      replace q3 := Lib.hid q3
      have hfin := Lib.hid (And.intro ((hO.off hk4 fun k e => by omega).mono (show w.heap.size ≤ lo by omega)) (hA0.trans ((hkr.below (B := w.heap.size) (fun k e => by omega) (by omega)).trans (hk4.below (B := w.heap.size) (fun k e => by omega) (by have := hkr.size; omega)))))
      replace hn7 := Lib.hid hn7
      clear pz hO hX hkr hk4
      go_wp2
      refine bodyPost_ret (v := .agg #[.int .i64 (j : Int), .int .i64 (Y : Int), .int .i64 bw, .slice a7 n7 c7]) (by simp [results, Try.results102, go_sem, q0.out, q1.out, q2.out, q3.out]) rfl (by first | exact ⟨_, _, rfl, hfin.out.1, (show ((⟨j, Y, bw, rs⟩ : BoxD).x = j ∧ (⟨j, Y, bw, rs⟩ : BoxD).y = Y ∧ Sh ⟨j, Y, bw, rs⟩ (j * Y)) from ⟨rfl, rfl, hsh.out⟩), hfin.out.2⟩ | exact ⟨_, rfl, _, hfin.out.1, (show ((⟨j, Y, bw, rs⟩ : BoxD).x = j ∧ (⟨j, Y, bw, rs⟩ : BoxD).y = Y ∧ Sh ⟨j, Y, bw, rs⟩ (j * Y)) from ⟨rfl, rfl, hsh.out⟩), hfin.out.2⟩)
end Go.Proofs.Ytjeaeninpmaoiaa
/- A box that is drawn, hardly ever a quiet one; conditions: none. -/
namespace Go.Proofs.Ytjeaeninpmaoiaa
open Go.RowKit

set_option maxRecDepth 100000 in
set_option maxHeartbeats 8000000 in
theorem c_someBox (cg K : Nat) (x y : Int) (w : World) (h : CurR w cg K) (hK : K < 1070000000) :
    Calls Try.prog 72 #[.pointer (some ⟨cg, 0, none⟩), .int .i64 x, .int .i64 y] w fun e w' => ∃ v' r, e = .returned v' ∧ BoxO w' w.heap.size v' r ∧ (r.x = x ∧ r.y = y ∧ r.r.length ≤ 16) ∧ CurR w' cg (K + 2000) ∧ KeptOff (fun k => k = cg) w w' := by
  have hg := h.lt
  obtain ⟨X, hX', hX4⟩ : ∃ X : Nat, min (max x 0) 4 = (X : Int) ∧ X ≤ 4 := ⟨(min (max x 0) 4).toNat, by omega, by omega⟩
  obtain ⟨Y, hY', hY4⟩ : ∃ Y : Nat, min (max y 0) 4 = (Y : Int) ∧ Y ≤ 4 := ⟨(min (max y 0) 4).toNat, by omega, by omega⟩
  have hN : X * Y ≤ 16 := Nat.mul_le_mul hX4 hY4
  obtain ⟨N, hNe⟩ : ∃ N, N = X * Y := ⟨_, rfl⟩
  have hm : Hid ((X : Int) * (Y : Int) = (N : Int)) := Lib.hid (by rw [hNe]; simp)
  rw [← hNe] at hN
  clear hNe
  replace hX' := Lib.hid hX'
  replace hY' := Lib.hid hY'
  have hA0 := (Below.refl w.heap.size w).alloc (Nat.le_refl _) (.cells #[.int .i64 0, .int .i64 0, .int .i64 0, .slice none 0 0] 50)
  obtain ⟨w0, hw0⟩ : ∃ z, z = w.alloc (.cells #[.int .i64 0, .int .i64 0, .int .i64 0, .slice none 0 0] 50) := ⟨_, rfl⟩
  have hz0 : w0.heap.size = w.heap.size + 1 := by rw [hw0]; simp
  have p0 : w0.heap[w.heap.size]? = some (.cells #[.int .i64 0, .int .i64 0, .int .i64 0, .slice none 0 0] 50 (0, 0)) := by rw [hw0]; exact heap_alloc_at rfl
  rw [← hw0] at hA0
  have hAl := (Below.refl w0.heap.size w0).alloc (Nat.le_refl _) (.cells #[.int .i64 4, .int .i64 2, .int .i64 6, .int .i64 1, .int .i64 8, .int .i64 12] 3)
  have hl6 := (own_lit w0 0 [4, 2, 6, 1, 8, 12] #[.int .i64 4, .int .i64 2, .int .i64 6, .int .i64 1, .int .i64 8, .int .i64 12] rfl (Nat.zero_le _) (by simp)).ints
  go_enter Try.func72, Try.ntmps72
  go_wp2_with fail
  rw [← hw0]
  have hc0 := (h.below hA0).below hAl
  have hzl := hAl.size
  refine (c_among cg K _ [4, 2, 6, 1, 8, 12] _ hc0 (by omega) (by rw [← hz0]; exact hl6) (by simp) (by simp) (by intro b off n c e; simp at e; omega)).mono ?_
  rintro e w2 ⟨W, rfl, hW, hc2, hk2⟩
  have hW12 : 1 ≤ W ∧ W ≤ 12 := by simp at hW; omega
  obtain ⟨V, rfl, hV12⟩ : ∃ V : Nat, W = (V : Int) ∧ V ≤ 12 := ⟨W.toNat, by omega, by omega⟩
  have hk02 : KeptOff (fun k => k = cg) w0 w2 := (kept0 hAl |>.mono fun _ f => f.elim).trans hk2
  have hz2 := hk02.size
  clear hW hAl hl6 hc0 hk2 hzl
  obtain ⟨lo, hlo⟩ : ∃ z, z = w.heap.size + 1 := ⟨_, rfl⟩
  obtain ⟨hX, hAb⟩ := boxX_new (x := x) (y := y) (n := (V : Int)) (rows0_nil w2 lo) (by omega)
  have hcr := hc2.below hAb
  have hkr : KeptOff (fun k => k = cg ∨ lo ≤ k) w0 _ := (hk02.mono fun k e => .inl e).trans (kept0 hAb |>.mono fun _ f => f.elim)
  have hq1 : cg < w.heap.size ∧ w.heap.size < lo ∧ lo ≤ w0.heap.size ∧ w0.heap.size ≤ lo := by omega
  clear hw0 hc2 hk02 hlo
  go_upto_region 2 with fail
  obtain ⟨bb, hbb⟩ : ∃ z, z = w2.heap.size := ⟨_, rfl⟩
  obtain ⟨w3, hw3⟩ : ∃ z, z = w2.alloc (.cells #[.int .i64 x, .int .i64 y, .int .i64 (V : Int), .slice none 0 0] 50) := ⟨_, rfl⟩
  rw [← hw3, ← hbb] at hX
  rw [← hw3] at hcr hkr
  rw [← hw3, ← hbb]
  clear hw3 hAb hbb hz2 hz0
  go_wp2_with fail
  go_loopw [8] (fun i wr => ∃ (j : Nat) (rs : List (List Int)) (rv : Value), j ≤ N ∧ i = .int .i64 j ∧ BoxX wr lo bb rv ⟨x, y, (V : Int), rs⟩ ∧ Hid (rs.length = j) ∧ CurR wr cg (K + 2 + 60 * j) ∧ KeptOff (fun q => q = cg ∨ lo ≤ q) w0 wr) (fun i _ => N - (intOf i).toNat)
  case atStart => exact ⟨0, [], _, Nat.zero_le _, rfl, hX, Lib.hid rfl, hcr, hkr⟩
  case round =>
    clear hX hkr hcr
    obtain ⟨j, rs, rv, hj, rfl, hX, hsh, hcr, hkr⟩ := hrel
    have hlw := hX.lt
    have hll := hX.low
    have hzr := hkr.size
    have hlen : rs.length < 1099511627776 := by have := hsh.out; omega
    obtain ⟨wo, rfl⟩ : ∃ wo : World, wo = wr := ⟨_, rfl⟩
    go_wp2_with fail
    refine (c_l2Near x _).mono ?_
    rintro e _ ⟨rfl, rfl⟩
    rw [hX'.out]
    go_wp2_with fail
    refine (c_l2Near y _).mono ?_
    rintro e _ ⟨rfl, rfl⟩
    rw [hY'.out]
    have hm2 := hm.out
    by_cases hjN : j < N
    · have hd : decide ((j : Int) < (N : Int)) = true := by simp; omega
      obtain ⟨⟨z0, z1, z2, z3⟩, -⟩ := blk4 hX.box
      go_wp2_with fail
      clear hm2
      refine wp_region_rk (by kernel_rfl) [none, none, none, none, none, none, none, none, none, some 3, some 4, none, none, none, none, none, none, none, none, none, none, none, none, none, none, none, none, none, some 0, some 1, some 2] 4 (by kernel_rfl) (by kernel_rfl) (by kernel_rfl) _ rfl wo.heap.size [rkL (List.replicate 4 0), rkV (.pointer (some ⟨bb, 2, none⟩)), rkV (.int .i64 (V : Int)), rkE 0] _ rfl (by kernel_rfl) (by simp) ?_ ?_
      · intro i o ho hi u g ww hbw hd
        have hall : Below wo.heap.size wo ww := hbw
        have hlow : wo.heap.size ≤ ww.heap.size := hall.size
        obtain ⟨hcl, hfr⟩ := bcell hbw
        have y_z2 := (hcl _ _ (by omega)).trans z2
        clear hcl hfr
        rcases i with _ | _ | _ | _ | _ | i
        all_goals try obtain rfl := Option.some.inj ho
        all_goals try simp only [putAll, fillL]
        · refine wp_make_int _ rfl _ _ rfl 4 rfl rfl (by omega) ?_
          intro wn h1n h2n h3n
          go_wp2
          exact ⟨_, rfl, kept0 h2n, ⟨h1n.mono hlow, h1n.le, OwnS.lt h1n⟩⟩
        · go_wp2
          exact ⟨_, rfl, kept0 (Below.refl _ _), rfl⟩
        · have e1 : u 1 = .pointer (some ⟨bb, 2, none⟩) := hd 1 (by decide)
          rw [e1]
          go_wp2
          exact ⟨_, by simp only [putAll, fillL, e1] <;> rfl, kept0 (Below.refl _ _), rfl⟩
        · have d0 : OwnF ww wo.heap.size (InI (g 0)) (u 0) _ := hd 0 (by decide)
          obtain ⟨p0, q0, e0, -⟩ := d0.rd.out
          rw [e0]
          go_wp2
          exact ⟨_, by simp only [putAll, fillL, e0] <;> rfl, kept0 (Below.refl _ _), by simp [rkH, rkE, e0]⟩
        · exact absurd rfl hi
        · simp at ho
      · intro u g w5 hbw hR hAp
        have R0 : OwnF w5 wo.heap.size (InI (g 0)) (u 0) (List.replicate 4 0) := hR 0 (by decide) (by decide)
        have e1 : u 1 = .pointer (some ⟨bb, 2, none⟩) := hR 1 (by decide) (by decide)
        have e2 : u 2 = .int .i64 (V : Int) := hR 2 (by decide) (by decide)
        have e3 : u 3 = u 0 := by
          have h3 : [u 3] = [u 0] := hR 3 (by decide) (by decide)
          simpa using h3
        have hO4 := R0.1
        rcases hO4.shape with ⟨-, e⟩ | ⟨g4, c4, e4, hg4, hg5⟩
        · exact absurd e (by simp)
        rw [e4] at hO4
        simp only [List.length_replicate] at hO4 e4
        obtain ⟨ts, hts⟩ : ∃ z, z = List.replicate 4 (0 : Int) := ⟨_, rfl⟩
        have htl : ts.length = 4 := by rw [hts]; simp
        rw [← hts] at hO4
        clear hts hR hAp R0
        simp only [putAll, fillL]
        rw [e1, e2, e3, e4]
        clear e1 e2 e3 e4
        have hz5 := hbw.size
        have hX5 := hX.below hbw
        have hR5 := OwnR.below hX.row hbw
        have hc5 := hcr.below hbw
        have hk5 : KeptOff (fun k => k = cg ∨ wo.heap.size ≤ k) wo w5 := kept0 hbw |>.mono fun _ f => f.elim
        clear z0 z1 z2 z3 hcr
        go_upto_region 6 with fail
        go_loopw [10] (fun l wr => ∃ (q : Nat) (ts : List Int), q ≤ 12 ∧ l = .int .i64 q ∧ OwnI wr wo.heap.size (.slice (some ⟨g4, 0, none⟩) 4 c4) ts ∧ Hid (ts.length = 4) ∧ CurR wr cg (K + 2 + 60 * j + 4 * (12 - q)) ∧ KeptOff (fun k => k = cg ∨ wo.heap.size ≤ k) wo wr) (fun l _ => (intOf l).toNat)
        case atStart => exact ⟨V, ts, hV12, rfl, hO4, Lib.hid htl, hc5.more (by omega), hk5⟩
        case round =>
          clear hO4 hbw htl hX5 hR5 hc5 hk5
          obtain ⟨q, ts, hq, rfl, hO, htl, hcr, hko⟩ := hrel
          have hszo := hko.size
          have hg4' := OwnS.lt hO g4 rfl
          by_cases hq0 : 0 < q
          · have hd3 : decide ((q : Int) > 0) = true := by simp; omega
            obtain ⟨wp, rfl⟩ : ∃ wp : World, wp = wr := ⟨_, rfl⟩
            go_wp2_with fail
            refine (c_pick cg _ q _ hcr (by omega) (by omega)).mono ?_
            rintro e w6 ⟨p1, rfl, hp1, hc6, hk6⟩
            have hp1' : p1 < q := by omega
            replace hO := own_off (show cg < wo.heap.size by omega) hO hk6
            replace hko := hko.trans (hk6.mono fun k e => .inl e)
            have hz6 := hk6.size
            clear hk6 hcr hp1
            go_wp2_with fail
            refine (c_pick cg _ 4 _ hc6 (by omega) (by omega)).mono ?_
            rintro e w7 ⟨p2, rfl, hp2, hc7, hk7⟩
            have hp2' : p2 < 4 := by omega
            have hO7 : OwnI w7 wo.heap.size (.slice (some ⟨g4, 0, none⟩) 4 c4) ts := own_off (show cg < wo.heap.size by omega) hO hk7
            replace hko := hko.trans (hk7.mono fun k e => .inl e)
            have hz7 := hk7.size
            clear hk7 hc6 hp2 hO
            obtain ⟨cq, fq⟩ := OwnI.cell hO7 p2 (by have := htl.out; omega)
            obtain ⟨tv, htv⟩ : ∃ z, z = ts[p2]'(by have := htl.out; omega) := ⟨_, rfl⟩
            rw [← htv] at cq
            obtain ⟨nv, hnv⟩ : ∃ z, z = wrap64 (tv + (1 + (p1 : Int))) := ⟨_, rfl⟩
            obtain ⟨hs1, hs2⟩ := OwnI.set hO7 p2 nv
            have hk8 := hko.trans ((grown_kept (v := .slice (some ⟨g4, 0, none⟩) 4 c4) hs2).mono fun k (e : some g4 = some k) => (.inr (by injection e with e; omega) : k = cg ∨ wo.heap.size ≤ k))
            have hc8 : CurR (w7.setCell ⟨g4, p2, none⟩ (.int .i64 nv)) cg _ := hc7.off (keptOff_set w7 g4 p2 (.int .i64 nv)) (fun k e => by omega)
            clear hs2 hko hO7 hc7 htv
            go_upto_region 10 with fail
            obtain ⟨w8, hw8⟩ : ∃ z, z = w7.setCell ⟨g4, p2, none⟩ (.int .i64 nv) := ⟨_, rfl⟩
            rw [← hw8] at hs1 hk8 hc8
            rw [← hnv, ← hw8]
            clear hw8 hnv cq fq
            go_wp2
            go_roundw
            case rel => exact ⟨q - (1 + p1), ts.set p2 nv, by omega, by first | go_num | exact congrArg (Value.int .i64) (by omega), hs1, Lib.hid (by rw [List.length_set]; exact htl.out), hc8.more (by omega), hk8⟩
            case measure => simp [intOf]; omega
          · obtain rfl : q = 0 := by omega
            have hd3 : decide (((0 : Nat) : Int) > 0) = false := by simp
            have htl4 := htl.out
            have hXA : BoxX wr lo bb rv ⟨x, y, (V : Int), rs⟩ := hX.off hko fun k e => by omega
            have hRA := OwnR.off hX.row hko fun k f e => by omega
            have hkA := hkr.trans (hko.mono fun k e => by rcases e with e | e; exact .inl e; exact .inr (by omega))
            have hdis : ∀ g, (Value.slice (some ⟨g4, 0, none⟩) 4 c4).ownBlock = some g → ¬ (lo ≤ g ∧ g < wo.heap.size) := fun g e f => by have := OwnS.lt hO g e; omega
            clear hX hkr hko
            go_upto_region 11 with fail
            have hbA := hXA.box
            obtain ⟨⟨y0, y1, y2, y3⟩, g0, g1, g2, g3⟩ := blk4 hbA
            clear y0 y1 y2 g0 g1 g2 g3
            go_wp2_with (at_builtin; refine wp_append_row _ (.slice (some ⟨g4, 0, none⟩) 4 c4) rfl _ _ rfl lo _ _ _ rfl hRA ts (hO.mono (by omega)) hdis rfl (by first | rfl | simp) hlen (by omega) ?_; intro v5 w5 hn5 hg5 hB5 _; obtain ⟨a5, k5, rfl, -⟩ := (OwnR.rows hn5).out; simp only [List.length_append, List.length_singleton] at hn5; have hb5 := hXA.grown hg5; have hr5 := Lib.hid (hXA.r ts hn5 hg5); obtain ⟨⟨x0, x1, x2, x3⟩, f0, f1, f2, f3⟩ := blk4 hb5; clear x0 x1 x2 f0 f1 f2)
            have hc9 : CurR _ cg _ := hcr.off hr5.out.2 (fun k e => by omega)
            go_roundw
            case rel =>
              have hsh2 : Hid ((rs ++ [ts]).length = j + 1) := Lib.hid (by have := hsh.out; simp; omega)
              have hc10 := hc9.more (show _ ≤ K + 2 + 60 * (j + 1) by omega)
              have hk10 := hkA.trans (hr5.out.2.mono fun k e => (.inr e : k = cg ∨ lo ≤ k))
              first | exact ⟨j + 1, by omega, by omega, rs ++ [ts], ⟨_, hr5.out.1⟩, hsh2, hc10, hk10⟩ | exact ⟨j + 1, rs ++ [ts], _, by omega, by go_num, hr5.out.1, hsh2, hc10, hk10⟩ | ((repeat apply Exists.intro); exact ⟨⟨j + 1, rs ++ [ts], _, by omega, rfl, hr5.out.1, hsh2, hc10, hk10⟩, rfl⟩)
            case measure => simp [intOf]; omega
    · obtain rfl : j = N := by omega
      have hd : decide ((j : Int) < (j : Int)) = false := by simp
      go_upto_region 12 with fail
      clear hm2
      have pz := (hkr.block w.heap.size (by omega) (by omega)).trans p0
      obtain ⟨a7, c7, rfl, -⟩ := (OwnR.rows hX.row).out
      obtain ⟨n7, hn7⟩ : ∃ n, n = rs.length := ⟨_, rfl⟩
      obtain ⟨⟨b0, b1, b2, b3⟩, -⟩ := blk4 (show wo.heap[bb]? = some (.cells #[.int .i64 x, .int .i64 y, .int .i64 (V : Int), .slice a7 rs.length c7] 50 (0, 0)) from hX.box)
      obtain ⟨⟨c0, c1, c2, c3⟩, g0, g1, g2, g3⟩ := blk4 pz
      have hO : BoxO wo lo (.agg #[.int .i64 x, .int .i64 y, .int .i64 (V : Int), .slice a7 rs.length c7]) ⟨x, y, (V : Int), rs⟩ := hX.o
      rw [← hn7] at b3 hO
      obtain ⟨⟨⟨q0, q1⟩, q2, q3⟩, -, hk4⟩ := storedB pz (.int .i64 x) (.int .i64 y) (.int .i64 (V : Int)) (.slice a7 n7 c7)
      replace q0 := Lib.hid q0
      replace q1 := Lib.hid q1
      replace q2 := Lib.hid q2
      replace q3 := Lib.hid q3
      have hc9 := CurR.off hcr hk4 (fun k e => by omega)
      have hfin := Lib.hid (And.intro ((hO.stored pz (.int .i64 x) (.int .i64 y) (.int .i64 (V : Int)) (.slice a7 n7 c7)).mono (show w.heap.size ≤ lo by omega)) (And.intro hc9 (keptc (F := fun k => k = cg) (keptc (F := fun k => k = cg) (kept0 hA0 |>.mono fun _ f => f.elim) hkr (fun k e1 e2 => by rcases e2 with e2 | e2 <;> omega)) hk4 (fun k e1 e2 => by omega))))
      replace hn7 := Lib.hid hn7
      clear pz hO hX hkr hk4 hcr hc9
      go_wp2
      refine bodyPost_ret (v := .agg #[.int .i64 x, .int .i64 y, .int .i64 (V : Int), .slice a7 n7 c7]) (by simp [results, Try.results72, go_sem, q0.out, q1.out, q2.out, q3.out]) rfl (by first | exact ⟨_, _, rfl, hfin.out.1, (show ((⟨x, y, (V : Int), rs⟩ : BoxD).x = x ∧ (⟨x, y, (V : Int), rs⟩ : BoxD).y = y ∧ rs.length ≤ 16) from ⟨rfl, rfl, by have := hsh.out; omega⟩), hfin.out.2.1.more (by omega), hfin.out.2.2⟩ | exact ⟨_, rfl, _, hfin.out.1, (show ((⟨x, y, (V : Int), rs⟩ : BoxD).x = x ∧ (⟨x, y, (V : Int), rs⟩ : BoxD).y = y ∧ rs.length ≤ 16) from ⟨rfl, rfl, by have := hsh.out; omega⟩), hfin.out.2.1.more (by omega), hfin.out.2.2⟩)
end Go.Proofs.Ytjeaeninpmaoiaa
