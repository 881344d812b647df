/- A scene with a list of places that is drawn from bytes; conditions: none. -/
import Derived.Test.YtiidphlfpiaoeaaDrawS2
import Derived.Test.YtiidphlfpiaoeaaDrawS1
import Derived.Test.YtiidphlfpiaoeaaFind
namespace Go.Proofs.Ytiidphlfpiaoeaa
open Go.RowKit

set_option maxRecDepth 100000 in
set_option maxHeartbeats 8000000 in
theorem c_DrawIsParityProof (v : Value) (m : Nat) (w : World) (h : BytesV w v m) :
    Calls Try.prog 25 #[v] w fun e w' => ∃ v' u' r xs, e = .returned (.tuple #[v', u']) ∧ SceneB w' w.heap.size v' r ∧ OwnI w' w.heap.size u' xs ∧ Below w.heap.size w w' := by
  obtain ⟨ad, cap, rfl, hcap, hbr⟩ := id h
  have hA0 := (Below.refl w.heap.size w).alloc (Nat.le_refl _) (.cells #[.int .i64 0, .slice none 0 0, .slice none 0 0] 27)
  obtain ⟨w0, hw0⟩ : ∃ z, z = w.alloc (.cells #[.int .i64 0, .slice none 0 0, .slice none 0 0] 27) := ⟨_, rfl⟩
  have hz0 : w0.heap.size = w.heap.size + 1 := by rw [hw0]; simp
  have p0' : w0.heap[w.heap.size]? = some (.cells #[.int .i64 0, .slice none 0 0, .slice none 0 0] 27 (0, 0)) := by rw [hw0]; exact heap_alloc_at rfl
  rw [← hw0] at hA0
  have hcn := cur_new (cap := cap) (hbr.below hA0)
  have hAc := (Below.refl w0.heap.size w0).alloc (Nat.le_refl _) (.cells #[.slice ad m cap, .int .i64 0, .int .u64 0] 83)
  obtain ⟨wa, hwa⟩ : ∃ z, z = w0.alloc (.cells #[.slice ad m cap, .int .i64 0, .int .u64 0] 83) := ⟨_, rfl⟩
  have hza : wa.heap.size = w0.heap.size + 1 := by rw [hwa]; simp
  rw [← hwa] at hcn hAc
  have p0 := blk_later hAc p0'
  obtain ⟨cg, hcg⟩ : ∃ z, z = w.heap.size + 1 := ⟨_, rfl⟩
  obtain ⟨lo, hlo⟩ : ∃ z, z = wa.heap.size := ⟨_, rfl⟩
  rw [hz0, ← hcg] at hcn
  go_enter Try.func25, Try.ntmps25
  go_wp2_with fail
  rw [← hw0, ← hwa, ← hcg]
  clear hw0 hwa
  refine (c_scene7 cg 0 _ hcn (by omega)).mono ?_
  rintro e w2 ⟨v', r, rfl, hG, hc2, hkk⟩
  rw [← hlo] at hG
  have hk00 : KeptOff (fun k => k = cg ∨ k = w.heap.size) w wa := ((kept0 hA0).trans (kept0 hAc)).mono fun _ f => f.elim
  clear p0' hAc hA0 hcn hbr
  have hz2 := hkk.size
  obtain ⟨a, k, b, m2, rfl⟩ := hG.form
  have hSR := hG.rd
  obtain ⟨n1, hn1⟩ : ∃ n, n = r.c.length := ⟨_, rfl⟩
  obtain ⟨n2, hn2⟩ : ∃ n, n = r.s.length := ⟨_, rfl⟩
  obtain ⟨rn, hrn⟩ : ∃ n, n = r.n := ⟨_, rfl⟩
  rw [← hn1, ← hn2, ← hrn] at hG hSR ⊢
  clear hn1 hn2 hrn
  have hA3 := (Below.refl w2.heap.size w2).alloc (Nat.le_refl _) (.cells #[.int .i64 rn, .slice a n1 k, .slice b n2 m2] 27)
  have p3 : (w2.alloc (.cells #[.int .i64 rn, .slice a n1 k, .slice b n2 m2] 27)).heap[w2.heap.size]? = some (.cells #[.int .i64 rn, .slice a n1 k, .slice b n2 m2] 27 (0, 0)) := heap_alloc_at rfl
  obtain ⟨w3, hw3⟩ : ∃ z, z = w2.alloc (.cells #[.int .i64 rn, .slice a n1 k, .slice b n2 m2] 27) := ⟨_, rfl⟩
  have hz3 : w3.heap.size = w2.heap.size + 1 := by rw [hw3]; simp
  rw [← hw3] at hA3 p3
  replace hG := hG.below hA3
  replace hSR := hSR.below hA3
  have hc3 := hc2.below hA3
  have hk3 := hkk.trans ((kept0 hA3).mono fun _ f => f.elim)
  obtain ⟨⟨x0, x1, x2⟩, -⟩ := blk3 p3
  go_upto_region 3 with fail
  rw [← hw3]
  clear hw3 hA3 hkk hc2
  rw [← hcg]
  have hq1 : w.heap.size < cg := by omega
  have hq2 : cg < lo := by omega
  have hq3 : lo ≤ w2.heap.size := by omega
  have hq4 : w2.heap.size < w3.heap.size := by omega
  have hq5 : w.heap.size < wa.heap.size := by omega
  have hq6 : wa.heap.size ≤ w2.heap.size := by omega
  clear hcg hlo hz0 hza hz2 hz3
  go_wp2_with fail
  refine (c_spec_FindParityProof _ r _ hSR).mono ?_
  rintro e w5 ⟨lv, rfl, hlv, hb5⟩
  obtain ⟨al, kl, rfl, -, -⟩ := hlv.ints.out
  obtain ⟨fs, hfs⟩ : ∃ f, f = findL r := ⟨_, rfl⟩
  obtain ⟨nl, hnl⟩ : ∃ n, n = (findL r).length := ⟨_, rfl⟩
  rw [← hnl] at hlv ⊢
  rw [← hfs] at hlv
  obtain ⟨ok, hok⟩ : ∃ b, b = findB r := ⟨_, rfl⟩
  rw [← hok]
  clear hfs hnl hok x0 x1 x2
  replace p3 := blk_later hb5 p3
  replace hG := hG.below hb5
  replace hSR := hSR.below hb5
  replace hc3 := hc3.below hb5
  replace hk3 := hk3.trans ((kept0 hb5).mono fun _ f => f.elim)
  have hz5 := hb5.size
  clear hb5
  have hq7 : w2.heap.size < w5.heap.size := by omega
  obtain ⟨⟨x0, x1, x2⟩, -⟩ := blk3 p3
  cases ok
  · go_upto_region 6 with fail
    clear hlv hSR x0 x1 x2
    have hA7 := (Below.refl w5.heap.size w5).alloc (Nat.le_refl _) (.cells #[] 3)
    have hO7 := own_empty w5 w5.heap.size (Nat.le_refl _)
    have hc7 := hc3.below hA7
    have hk7 : KeptOff (fun q => q = cg) w5 _ := (kept0 hA7).mono fun _ f => f.elim
    clear hc3
    go_upto_region 7 with fail
    obtain ⟨w7, hw7⟩ : ∃ z, z = w5.alloc (.cells #[] 3) := ⟨_, rfl⟩
    obtain ⟨W, hW⟩ : ∃ z, z = w5.heap.size := ⟨_, rfl⟩
    rw [← hw7] at hO7 hc7 hk7 ⊢
    rw [← hW] at hO7 ⊢
    have hq7 : w2.heap.size < w5.heap.size := by omega
    have hcW : cg < W := by omega
    have hloW : lo ≤ W := by omega
    have hW1 : W ≤ w5.heap.size ∧ w5.heap.size ≤ W := by omega
    clear hA7 hw7 hW
    go_wp2_with fail
    go_loopw [8, 9] (fun lv z wr => ∃ (j : Nat) (xs : List Int), j ≤ 11 ∧ z = .int .i64 j ∧ OwnI wr W lv xs ∧ xs.length ≤ j ∧ CurR wr cg (400 + 2 * j) ∧ KeptOff (fun q => q = cg) w5 wr) (fun _ z _ => 11 - (intOf z).toNat)
    case atStart => exact ⟨0, [], by omega, rfl, hO7, by simp, hc7.more (by omega), hk7⟩
    case round =>
      clear hO7 hc7 hk7
      obtain ⟨j, xs, hj, rfl, hO, hxl, hcx, hkx⟩ := hrel
      have hzx := hkx.size
      have pW := (hkx.block w2.heap.size hq7 (by omega)).trans p3
      obtain ⟨⟨x0, x1, x2⟩, -⟩ := blk3 pW
      clear pW
      by_cases hgo : j < n1 ∧ j < 11
      · have hd1 : decide ((j : Int) < (n1 : Int)) = true := by simp; omega
        have hd2 : decide ((j : Int) < 11) = true := by simp; omega
        obtain ⟨wo, rfl⟩ : ∃ wo : World, wo = wr := ⟨_, rfl⟩
        obtain ⟨al, kl, rfl, -, -⟩ := hO.ints.out
        go_wp2_with fail
        refine (c_one cg _ 2 _ hcx (by omega) (by omega)).mono ?_
        rintro e w8 ⟨b8, rfl, hc8, hk8⟩
        replace hO := own_off hcW hO hk8
        replace hkx := hkx.trans hk8
        have hz8 := hk8.size
        clear hk8 hcx x0 x1 x2
        cases b8
        · go_wp2
          go_roundw
          case rel => first | exact ⟨j + 1, xs, by omega, by go_num, hO, by omega, hc8.more (by omega), hkx⟩ | ((repeat apply Exists.intro); exact ⟨⟨j + 1, xs, by omega, rfl, hO, by omega, hc8.more (by omega), hkx⟩, rfl⟩)
          case measure => simp [intOf]; omega
        · go_wp2_with (at_builtin; refine wp_append_int _ (j : Int) rfl _ _ rfl W _ xs rfl hO rfl (by first | rfl | simp) (by omega) (by omega) ?_; intro v5 w5 hn5 hg5 hB5 _; have hc5 : CurR w5 cg _ := hc8.off (keptOfB hB5 hB5.size) fun q hq => by have hq' : W ≤ q := hq; omega)
          go_roundw
          case rel =>
            have hk6 := keptc hkx (keptOfB hB5 hB5.size) (F := fun q => q = cg) (fun q e1 e2 => by have e3 : W ≤ q := e2; omega)
            exact ⟨j + 1, xs ++ [(j : Int)], by omega, by go_num, hn5, by simp; omega, hc5.more (by omega), hk6⟩
          case measure => simp [intOf]; omega
      · obtain ⟨al, kl, rfl, -, -⟩ := hO.ints.out
        obtain hge | ⟨hlt, hj13⟩ : ¬ j < n1 ∨ (j < n1 ∧ j = 11) := by omega
        · have hd1 : decide ((j : Int) < (n1 : Int)) = false := by simp; omega
          go_upto_region 12 with fail
          clear x0 x1 x2
          have hlx : Hid (xs.length ≤ 11) := Lib.hid (by omega)
          have hcy := hcx.more (show _ ≤ 1000 by omega)
          clear hcx hd1
          go_wp2_with fail
          refine (c_one cg _ 20 _ hcy (by omega) (by omega)).mono ?_
          rintro e w8 ⟨b8, rfl, hc8, hk8⟩
          replace hO : OwnI w8 W _ xs := own_off hcW hO hk8
          replace hkx := hkx.trans hk8
          have hz8 := hk8.size
          clear hk8 hcy
          cases b8
          · go_upto_region 14 with fail
            obtain ⟨a3, k3, e3, -, -⟩ := hO.ints.out
            obtain ⟨n3, hn3⟩ : ∃ n, n = xs.length := ⟨_, rfl⟩
            replace hO := OwnI.mono hO hloW
            rw [e3] at hO ⊢
            clear e3
            rw [← hn3] at hO ⊢
            replace hn3 := Lib.hid hn3
            have hkz := hk3.trans hkx
            replace hG := hG.off hkx fun k e => by omega
            have pW := (hkx.block w2.heap.size hq7 (by omega)).trans p3
            obtain ⟨⟨x0, x1, x2⟩, -⟩ := blk3 pW
            clear hk3 hkx pW p3
            have pz := (hkz.block w.heap.size (by omega) (by omega)).trans p0
            obtain ⟨⟨c0, c1, c2⟩, g0, g1, g2⟩ := blk3 pz
            obtain ⟨⟨q0, q1, q2⟩, hk4⟩ := stored3 pz (.int .i64 rn) (.slice a n1 k) (.slice b n2 m2)
            replace q0 := Lib.hid q0
            replace q1 := Lib.hid q1
            replace q2 := Lib.hid q2
            have hfin := Lib.hid (And.intro ((hG.off hk4 fun k e => by omega).mono (show w.heap.size ≤ lo by omega)) (And.intro ((own_off2 hO hk4 (fun k e => by omega)).mono (show w.heap.size ≤ lo by omega)) ((keptc (hk00.trans (hkz.mono fun k (e : k = cg) => (.inl e : k = cg ∨ k = w.heap.size))) hk4 fun k e1 e2 => by omega).below (B := w.heap.size) (fun k e => by omega) (by omega))))
            clear pz p0 hG hO hk4
            go_wp2
            refine bodyPost_ret (v := .tuple #[.agg #[.int .i64 rn, .slice a n1 k, .slice b n2 m2], .slice a3 n3 k3]) (by simp [results, Try.results25, go_sem, q0.out, q1.out, q2.out]) rfl ⟨_, _, _, _, rfl, hfin.out.1, hfin.out.2.1, hfin.out.2.2⟩
          · have hA6 := (Below.refl w8.heap.size w8).alloc (Nat.le_refl _) (.cells #[.int .i64 (-1), .int .i64 0, .int .i64 10] 3)
            have hl6 := (own_lit w8 0 [-1, 0, 10] #[.int .i64 (-1), .int .i64 0, .int .i64 10] rfl (Nat.zero_le _) (by simp)).ints
            go_wp2_with fail
            refine (c_among cg _ _ [-1, 0, 10] _ (hc8.below hA6) (by omega) hl6 (by simp) (by simp) (by intro b off n c e; simp at e; omega)).mono ?_
            rintro e w6 ⟨y, rfl, hy, hc6, hk6⟩
            have hO6 : OwnI w6 W _ xs := own_off hcW (OwnI.below hO hA6) hk6
            have hk7 := (hkx.trans ((kept0 hA6).mono fun _ f => f.elim)).trans hk6
            have hz6 := hk6.size
            simp only [World.size_alloc] at hz6
            clear hO hA6 hl6 hc8 hkx hk6 hy hc6
            go_upto_region 14 with (at_builtin; refine wp_append_int _ y rfl _ _ rfl W _ xs rfl hO6 rfl (by first | rfl | simp) (by have := hlx.out; omega) (by omega) ?_; intro v5 w5 hO hg5 hB5 _)
            have hkx := keptc hk7 (keptOfB hB5 hB5.size) (F := fun q => q = cg) (fun q e1 e2 => by have e3 : W ≤ q := e2; omega)
            clear hk7 hO6 hg5 hB5
            obtain ⟨ys, hys⟩ : ∃ z, z = xs ++ [y] := ⟨_, rfl⟩
            rw [← hys] at hO
            clear hys hlx hxl
            obtain ⟨a3, k3, e3, -, -⟩ := hO.ints.out
            obtain ⟨n3, hn3⟩ : ∃ n, n = ys.length := ⟨_, rfl⟩
            replace hO := OwnI.mono hO hloW
            rw [e3] at hO ⊢
            clear e3
            rw [← hn3] at hO ⊢
            replace hn3 := Lib.hid hn3
            have hkz := hk3.trans hkx
            replace hG := hG.off hkx fun k e => by omega
            have pW := (hkx.block w2.heap.size hq7 (by omega)).trans p3
            obtain ⟨⟨x0, x1, x2⟩, -⟩ := blk3 pW
            clear hk3 hkx pW p3
            have pz := (hkz.block w.heap.size (by omega) (by omega)).trans p0
            obtain ⟨⟨c0, c1, c2⟩, g0, g1, g2⟩ := blk3 pz
            obtain ⟨⟨q0, q1, q2⟩, hk4⟩ := stored3 pz (.int .i64 rn) (.slice a n1 k) (.slice b n2 m2)
            replace q0 := Lib.hid q0
            replace q1 := Lib.hid q1
            replace q2 := Lib.hid q2
            have hfin := Lib.hid (And.intro ((hG.off hk4 fun k e => by omega).mono (show w.heap.size ≤ lo by omega)) (And.intro ((own_off2 hO hk4 (fun k e => by omega)).mono (show w.heap.size ≤ lo by omega)) ((keptc (hk00.trans (hkz.mono fun k (e : k = cg) => (.inl e : k = cg ∨ k = w.heap.size))) hk4 fun k e1 e2 => by omega).below (B := w.heap.size) (fun k e => by omega) (by omega))))
            clear pz p0 hG hO hk4
            go_wp2
            refine bodyPost_ret (v := .tuple #[.agg #[.int .i64 rn, .slice a n1 k, .slice b n2 m2], .slice a3 n3 k3]) (by simp [results, Try.results25, go_sem, q0.out, q1.out, q2.out]) rfl ⟨_, _, _, _, rfl, hfin.out.1, hfin.out.2.1, hfin.out.2.2⟩
        · have hd1 : decide ((j : Int) < (n1 : Int)) = true := by simp; omega
          subst hj13
          have hd2 : decide (((11 : Nat) : Int) < 11) = false := by simp
          go_upto_region 12 with fail
          clear x0 x1 x2
          have hlx : Hid (xs.length ≤ 11) := Lib.hid (by omega)
          have hcy := hcx.more (show _ ≤ 1000 by omega)
          clear hcx hd1
          go_wp2_with fail
          refine (c_one cg _ 20 _ hcy (by omega) (by omega)).mono ?_
          rintro e w8 ⟨b8, rfl, hc8, hk8⟩
          replace hO : OwnI w8 W _ xs := own_off hcW hO hk8
          replace hkx := hkx.trans hk8
          have hz8 := hk8.size
          clear hk8 hcy
          cases b8
          · go_upto_region 14 with fail
            obtain ⟨a3, k3, e3, -, -⟩ := hO.ints.out
            obtain ⟨n3, hn3⟩ : ∃ n, n = xs.length := ⟨_, rfl⟩
            replace hO := OwnI.mono hO hloW
            rw [e3] at hO ⊢
            clear e3
            rw [← hn3] at hO ⊢
            replace hn3 := Lib.hid hn3
            have hkz := hk3.trans hkx
            replace hG := hG.off hkx fun k e => by omega
            have pW := (hkx.block w2.heap.size hq7 (by omega)).trans p3
            obtain ⟨⟨x0, x1, x2⟩, -⟩ := blk3 pW
            clear hk3 hkx pW p3
            have pz := (hkz.block w.heap.size (by omega) (by omega)).trans p0
            obtain ⟨⟨c0, c1, c2⟩, g0, g1, g2⟩ := blk3 pz
            obtain ⟨⟨q0, q1, q2⟩, hk4⟩ := stored3 pz (.int .i64 rn) (.slice a n1 k) (.slice b n2 m2)
            replace q0 := Lib.hid q0
            replace q1 := Lib.hid q1
            replace q2 := Lib.hid q2
            have hfin := Lib.hid (And.intro ((hG.off hk4 fun k e => by omega).mono (show w.heap.size ≤ lo by omega)) (And.intro ((own_off2 hO hk4 (fun k e => by omega)).mono (show w.heap.size ≤ lo by omega)) ((keptc (hk00.trans (hkz.mono fun k (e : k = cg) => (.inl e : k = cg ∨ k = w.heap.size))) hk4 fun k e1 e2 => by omega).below (B := w.heap.size) (fun k e => by omega) (by omega))))
            clear pz p0 hG hO hk4
            go_wp2
            refine bodyPost_ret (v := .tuple #[.agg #[.int .i64 rn, .slice a n1 k, .slice b n2 m2], .slice a3 n3 k3]) (by simp [results, Try.results25, go_sem, q0.out, q1.out, q2.out]) rfl ⟨_, _, _, _, rfl, hfin.out.1, hfin.out.2.1, hfin.out.2.2⟩
          · have hA6 := (Below.refl w8.heap.size w8).alloc (Nat.le_refl _) (.cells #[.int .i64 (-1), .int .i64 0, .int .i64 10] 3)
            have hl6 := (own_lit w8 0 [-1, 0, 10] #[.int .i64 (-1), .int .i64 0, .int .i64 10] rfl (Nat.zero_le _) (by simp)).ints
            go_wp2_with fail
            refine (c_among cg _ _ [-1, 0, 10] _ (hc8.below hA6) (by omega) hl6 (by simp) (by simp) (by intro b off n c e; simp at e; omega)).mono ?_
            rintro e w6 ⟨y, rfl, hy, hc6, hk6⟩
            have hO6 : OwnI w6 W _ xs := own_off hcW (OwnI.below hO hA6) hk6
            have hk7 := (hkx.trans ((kept0 hA6).mono fun _ f => f.elim)).trans hk6
            have hz6 := hk6.size
            simp only [World.size_alloc] at hz6
            clear hO hA6 hl6 hc8 hkx hk6 hy hc6
            go_upto_region 14 with (at_builtin; refine wp_append_int _ y rfl _ _ rfl W _ xs rfl hO6 rfl (by first | rfl | simp) (by have := hlx.out; omega) (by omega) ?_; intro v5 w5 hO hg5 hB5 _)
            have hkx := keptc hk7 (keptOfB hB5 hB5.size) (F := fun q => q = cg) (fun q e1 e2 => by have e3 : W ≤ q := e2; omega)
            clear hk7 hO6 hg5 hB5
            obtain ⟨ys, hys⟩ : ∃ z, z = xs ++ [y] := ⟨_, rfl⟩
            rw [← hys] at hO
            clear hys hlx hxl
            obtain ⟨a3, k3, e3, -, -⟩ := hO.ints.out
            obtain ⟨n3, hn3⟩ : ∃ n, n = ys.length := ⟨_, rfl⟩
            replace hO := OwnI.mono hO hloW
            rw [e3] at hO ⊢
            clear e3
            rw [← hn3] at hO ⊢
            replace hn3 := Lib.hid hn3
            have hkz := hk3.trans hkx
            replace hG := hG.off hkx fun k e => by omega
            have pW := (hkx.block w2.heap.size hq7 (by omega)).trans p3
            obtain ⟨⟨x0, x1, x2⟩, -⟩ := blk3 pW
            clear hk3 hkx pW p3
            have pz := (hkz.block w.heap.size (by omega) (by omega)).trans p0
            obtain ⟨⟨c0, c1, c2⟩, g0, g1, g2⟩ := blk3 pz
            obtain ⟨⟨q0, q1, q2⟩, hk4⟩ := stored3 pz (.int .i64 rn) (.slice a n1 k) (.slice b n2 m2)
            replace q0 := Lib.hid q0
            replace q1 := Lib.hid q1
            replace q2 := Lib.hid q2
            have hfin := Lib.hid (And.intro ((hG.off hk4 fun k e => by omega).mono (show w.heap.size ≤ lo by omega)) (And.intro ((own_off2 hO hk4 (fun k e => by omega)).mono (show w.heap.size ≤ lo by omega)) ((keptc (hk00.trans (hkz.mono fun k (e : k = cg) => (.inl e : k = cg ∨ k = w.heap.size))) hk4 fun k e1 e2 => by omega).below (B := w.heap.size) (fun k e => by omega) (by omega))))
            clear pz p0 hG hO hk4
            go_wp2
            refine bodyPost_ret (v := .tuple #[.agg #[.int .i64 rn, .slice a n1 k, .slice b n2 m2], .slice a3 n3 k3]) (by simp [results, Try.results25, go_sem, q0.out, q1.out, q2.out]) rfl ⟨_, _, _, _, rfl, hfin.out.1, hfin.out.2.1, hfin.out.2.2⟩
  · clear x0 x1 x2
    go_wp2_with fail
    refine (c_one cg _ 4 _ hc3 (by omega) (by omega)).mono ?_
    rintro e w6 ⟨b6, rfl, hc6, hk6⟩
    have p6 := kblk hk6 p3 (show w2.heap.size ≠ cg by omega)
    replace hG := hG.off hk6 fun q e => by omega
    have hO6 := own_off2 hlv hk6 fun q e => by omega
    replace hk3 := hk3.trans hk6
    have hz6 := hk6.size
    have hq8 : w2.heap.size < w6.heap.size := by omega
    clear hc3 hSR hlv hk6 p3
    obtain ⟨⟨x0, x1, x2⟩, -⟩ := blk3 p6
    cases b6
    · have hO : OwnI w6 lo (.slice al nl kl) fs := hO6.mono (by omega)
      clear p6
      have pz := (hk3.block w.heap.size (by omega) (by omega)).trans p0
      obtain ⟨⟨c0, c1, c2⟩, g0, g1, g2⟩ := blk3 pz
      obtain ⟨⟨q0, q1, q2⟩, hk4⟩ := stored3 pz (.int .i64 rn) (.slice a n1 k) (.slice b n2 m2)
      replace q0 := Lib.hid q0
      replace q1 := Lib.hid q1
      replace q2 := Lib.hid q2
      have hfin := Lib.hid (And.intro ((hG.off hk4 fun k e => by omega).mono (show w.heap.size ≤ lo by omega)) (And.intro ((own_off2 hO hk4 (fun k e => by omega)).mono (show w.heap.size ≤ lo by omega)) ((keptc (hk00.trans (hk3.mono fun k (e : k = cg) => (.inl e : k = cg ∨ k = w.heap.size))) hk4 fun k e1 e2 => by omega).below (B := w.heap.size) (fun k e => by omega) (by omega))))
      clear pz p0 hG hO hk4
      go_wp2
      refine bodyPost_ret (v := .tuple #[.agg #[.int .i64 rn, .slice a n1 k, .slice b n2 m2], .slice al nl kl]) (by simp [results, Try.results25, go_sem, q0.out, q1.out, q2.out]) rfl ⟨_, _, _, _, rfl, hfin.out.1, hfin.out.2.1, hfin.out.2.2⟩
    · go_upto_region 6 with fail
      have p3 := p6
      have hc3 := hc6
      clear p6 hc6 hO6 x0 x1 x2
      have hA7 := (Below.refl w6.heap.size w6).alloc (Nat.le_refl _) (.cells #[] 3)
      have hO7 := own_empty w6 w6.heap.size (Nat.le_refl _)
      have hc7 := hc3.below hA7
      have hk7 : KeptOff (fun q => q = cg) w6 _ := (kept0 hA7).mono fun _ f => f.elim
      clear hc3
      go_upto_region 7 with fail
      obtain ⟨w7, hw7⟩ : ∃ z, z = w6.alloc (.cells #[] 3) := ⟨_, rfl⟩
      obtain ⟨W, hW⟩ : ∃ z, z = w6.heap.size := ⟨_, rfl⟩
      rw [← hw7] at hO7 hc7 hk7 ⊢
      rw [← hW] at hO7 ⊢
      have hq7 : w2.heap.size < w6.heap.size := by omega
      have hcW : cg < W := by omega
      have hloW : lo ≤ W := by omega
      have hW1 : W ≤ w6.heap.size ∧ w6.heap.size ≤ W := by omega
      clear hA7 hw7 hW
      go_wp2_with fail
      go_loopw [8, 9] (fun lv z wr => ∃ (j : Nat) (xs : List Int), j ≤ 11 ∧ z = .int .i64 j ∧ OwnI wr W lv xs ∧ xs.length ≤ j ∧ CurR wr cg (402 + 2 * j) ∧ KeptOff (fun q => q = cg) w6 wr) (fun _ z _ => 11 - (intOf z).toNat)
      case atStart => exact ⟨0, [], by omega, rfl, hO7, by simp, hc7.more (by omega), hk7⟩
      case round =>
        clear hO7 hc7 hk7
        obtain ⟨j, xs, hj, rfl, hO, hxl, hcx, hkx⟩ := hrel
        have hzx := hkx.size
        have pW := (hkx.block w2.heap.size hq7 (by omega)).trans p3
        obtain ⟨⟨x0, x1, x2⟩, -⟩ := blk3 pW
        clear pW
        by_cases hgo : j < n1 ∧ j < 11
        · have hd1 : decide ((j : Int) < (n1 : Int)) = true := by simp; omega
          have hd2 : decide ((j : Int) < 11) = true := by simp; omega
          obtain ⟨wo, rfl⟩ : ∃ wo : World, wo = wr := ⟨_, rfl⟩
          obtain ⟨al, kl, rfl, -, -⟩ := hO.ints.out
          go_wp2_with fail
          refine (c_one cg _ 2 _ hcx (by omega) (by omega)).mono ?_
          rintro e w8 ⟨b8, rfl, hc8, hk8⟩
          replace hO := own_off hcW hO hk8
          replace hkx := hkx.trans hk8
          have hz8 := hk8.size
          clear hk8 hcx x0 x1 x2
          cases b8
          · go_wp2
            go_roundw
            case rel => first | exact ⟨j + 1, xs, by omega, by go_num, hO, by omega, hc8.more (by omega), hkx⟩ | ((repeat apply Exists.intro); exact ⟨⟨j + 1, xs, by omega, rfl, hO, by omega, hc8.more (by omega), hkx⟩, rfl⟩)
            case measure => simp [intOf]; omega
          · go_wp2_with (at_builtin; refine wp_append_int _ (j : Int) rfl _ _ rfl W _ xs rfl hO rfl (by first | rfl | simp) (by omega) (by omega) ?_; intro v5 w5 hn5 hg5 hB5 _; have hc5 : CurR w5 cg _ := hc8.off (keptOfB hB5 hB5.size) fun q hq => by have hq' : W ≤ q := hq; omega)
            go_roundw
            case rel =>
              have hk6 := keptc hkx (keptOfB hB5 hB5.size) (F := fun q => q = cg) (fun q e1 e2 => by have e3 : W ≤ q := e2; omega)
              exact ⟨j + 1, xs ++ [(j : Int)], by omega, by go_num, hn5, by simp; omega, hc5.more (by omega), hk6⟩
            case measure => simp [intOf]; omega
        · obtain ⟨al, kl, rfl, -, -⟩ := hO.ints.out
          obtain hge | ⟨hlt, hj13⟩ : ¬ j < n1 ∨ (j < n1 ∧ j = 11) := by omega
          · have hd1 : decide ((j : Int) < (n1 : Int)) = false := by simp; omega
            go_upto_region 12 with fail
            clear x0 x1 x2
            have hlx : Hid (xs.length ≤ 11) := Lib.hid (by omega)
            have hcy := hcx.more (show _ ≤ 1000 by omega)
            clear hcx hd1
            go_wp2_with fail
            refine (c_one cg _ 20 _ hcy (by omega) (by omega)).mono ?_
            rintro e w8 ⟨b8, rfl, hc8, hk8⟩
            replace hO : OwnI w8 W _ xs := own_off hcW hO hk8
            replace hkx := hkx.trans hk8
            have hz8 := hk8.size
            clear hk8 hcy
            cases b8
            · go_upto_region 14 with fail
              obtain ⟨a3, k3, e3, -, -⟩ := hO.ints.out
              obtain ⟨n3, hn3⟩ : ∃ n, n = xs.length := ⟨_, rfl⟩
              replace hO := OwnI.mono hO hloW
              rw [e3] at hO ⊢
              clear e3
              rw [← hn3] at hO ⊢
              replace hn3 := Lib.hid hn3
              have hkz := hk3.trans hkx
              replace hG := hG.off hkx fun k e => by omega
              have pW := (hkx.block w2.heap.size hq7 (by omega)).trans p3
              obtain ⟨⟨x0, x1, x2⟩, -⟩ := blk3 pW
              clear hk3 hkx pW p3
              have pz := (hkz.block w.heap.size (by omega) (by omega)).trans p0
              obtain ⟨⟨c0, c1, c2⟩, g0, g1, g2⟩ := blk3 pz
              obtain ⟨⟨q0, q1, q2⟩, hk4⟩ := stored3 pz (.int .i64 rn) (.slice a n1 k) (.slice b n2 m2)
              replace q0 := Lib.hid q0
              replace q1 := Lib.hid q1
              replace q2 := Lib.hid q2
              have hfin := Lib.hid (And.intro ((hG.off hk4 fun k e => by omega).mono (show w.heap.size ≤ lo by omega)) (And.intro ((own_off2 hO hk4 (fun k e => by omega)).mono (show w.heap.size ≤ lo by omega)) ((keptc (hk00.trans (hkz.mono fun k (e : k = cg) => (.inl e : k = cg ∨ k = w.heap.size))) hk4 fun k e1 e2 => by omega).below (B := w.heap.size) (fun k e => by omega) (by omega))))
              clear pz p0 hG hO hk4
              go_wp2
              refine bodyPost_ret (v := .tuple #[.agg #[.int .i64 rn, .slice a n1 k, .slice b n2 m2], .slice a3 n3 k3]) (by simp [results, Try.results25, go_sem, q0.out, q1.out, q2.out]) rfl ⟨_, _, _, _, rfl, hfin.out.1, hfin.out.2.1, hfin.out.2.2⟩
            · have hA6 := (Below.refl w8.heap.size w8).alloc (Nat.le_refl _) (.cells #[.int .i64 (-1), .int .i64 0, .int .i64 10] 3)
              have hl6 := (own_lit w8 0 [-1, 0, 10] #[.int .i64 (-1), .int .i64 0, .int .i64 10] rfl (Nat.zero_le _) (by simp)).ints
              go_wp2_with fail
              refine (c_among cg _ _ [-1, 0, 10] _ (hc8.below hA6) (by omega) hl6 (by simp) (by simp) (by intro b off n c e; simp at e; omega)).mono ?_
              rintro e w6 ⟨y, rfl, hy, hc6, hk6⟩
              have hO6 : OwnI w6 W _ xs := own_off hcW (OwnI.below hO hA6) hk6
              have hk7 := (hkx.trans ((kept0 hA6).mono fun _ f => f.elim)).trans hk6
              have hz6 := hk6.size
              simp only [World.size_alloc] at hz6
              clear hO hA6 hl6 hc8 hkx hk6 hy hc6
              go_upto_region 14 with (at_builtin; refine wp_append_int _ y rfl _ _ rfl W _ xs rfl hO6 rfl (by first | rfl | simp) (by have := hlx.out; omega) (by omega) ?_; intro v5 w5 hO hg5 hB5 _)
              have hkx := keptc hk7 (keptOfB hB5 hB5.size) (F := fun q => q = cg) (fun q e1 e2 => by have e3 : W ≤ q := e2; omega)
              clear hk7 hO6 hg5 hB5
              obtain ⟨ys, hys⟩ : ∃ z, z = xs ++ [y] := ⟨_, rfl⟩
              rw [← hys] at hO
              clear hys hlx hxl
              obtain ⟨a3, k3, e3, -, -⟩ := hO.ints.out
              obtain ⟨n3, hn3⟩ : ∃ n, n = ys.length := ⟨_, rfl⟩
              replace hO := OwnI.mono hO hloW
              rw [e3] at hO ⊢
              clear e3
              rw [← hn3] at hO ⊢
              replace hn3 := Lib.hid hn3
              have hkz := hk3.trans hkx
              replace hG := hG.off hkx fun k e => by omega
              have pW := (hkx.block w2.heap.size hq7 (by omega)).trans p3
              obtain ⟨⟨x0, x1, x2⟩, -⟩ := blk3 pW
              clear hk3 hkx pW p3
              have pz := (hkz.block w.heap.size (by omega) (by omega)).trans p0
              obtain ⟨⟨c0, c1, c2⟩, g0, g1, g2⟩ := blk3 pz
              obtain ⟨⟨q0, q1, q2⟩, hk4⟩ := stored3 pz (.int .i64 rn) (.slice a n1 k) (.slice b n2 m2)
              replace q0 := Lib.hid q0
              replace q1 := Lib.hid q1
              replace q2 := Lib.hid q2
              have hfin := Lib.hid (And.intro ((hG.off hk4 fun k e => by omega).mono (show w.heap.size ≤ lo by omega)) (And.intro ((own_off2 hO hk4 (fun k e => by omega)).mono (show w.heap.size ≤ lo by omega)) ((keptc (hk00.trans (hkz.mono fun k (e : k = cg) => (.inl e : k = cg ∨ k = w.heap.size))) hk4 fun k e1 e2 => by omega).below (B := w.heap.size) (fun k e => by omega) (by omega))))
              clear pz p0 hG hO hk4
              go_wp2
              refine bodyPost_ret (v := .tuple #[.agg #[.int .i64 rn, .slice a n1 k, .slice b n2 m2], .slice a3 n3 k3]) (by simp [results, Try.results25, go_sem, q0.out, q1.out, q2.out]) rfl ⟨_, _, _, _, rfl, hfin.out.1, hfin.out.2.1, hfin.out.2.2⟩
          · have hd1 : decide ((j : Int) < (n1 : Int)) = true := by simp; omega
            subst hj13
            have hd2 : decide (((11 : Nat) : Int) < 11) = false := by simp
            go_upto_region 12 with fail
            clear x0 x1 x2
            have hlx : Hid (xs.length ≤ 11) := Lib.hid (by omega)
            have hcy := hcx.more (show _ ≤ 1000 by omega)
            clear hcx hd1
            go_wp2_with fail
            refine (c_one cg _ 20 _ hcy (by omega) (by omega)).mono ?_
            rintro e w8 ⟨b8, rfl, hc8, hk8⟩
            replace hO : OwnI w8 W _ xs := own_off hcW hO hk8
            replace hkx := hkx.trans hk8
            have hz8 := hk8.size
            clear hk8 hcy
            cases b8
            · go_upto_region 14 with fail
              obtain ⟨a3, k3, e3, -, -⟩ := hO.ints.out
              obtain ⟨n3, hn3⟩ : ∃ n, n = xs.length := ⟨_, rfl⟩
              replace hO := OwnI.mono hO hloW
              rw [e3] at hO ⊢
              clear e3
              rw [← hn3] at hO ⊢
              replace hn3 := Lib.hid hn3
              have hkz := hk3.trans hkx
              replace hG := hG.off hkx fun k e => by omega
              have pW := (hkx.block w2.heap.size hq7 (by omega)).trans p3
              obtain ⟨⟨x0, x1, x2⟩, -⟩ := blk3 pW
              clear hk3 hkx pW p3
              have pz := (hkz.block w.heap.size (by omega) (by omega)).trans p0
              obtain ⟨⟨c0, c1, c2⟩, g0, g1, g2⟩ := blk3 pz
              obtain ⟨⟨q0, q1, q2⟩, hk4⟩ := stored3 pz (.int .i64 rn) (.slice a n1 k) (.slice b n2 m2)
              replace q0 := Lib.hid q0
              replace q1 := Lib.hid q1
              replace q2 := Lib.hid q2
              have hfin := Lib.hid (And.intro ((hG.off hk4 fun k e => by omega).mono (show w.heap.size ≤ lo by omega)) (And.intro ((own_off2 hO hk4 (fun k e => by omega)).mono (show w.heap.size ≤ lo by omega)) ((keptc (hk00.trans (hkz.mono fun k (e : k = cg) => (.inl e : k = cg ∨ k = w.heap.size))) hk4 fun k e1 e2 => by omega).below (B := w.heap.size) (fun k e => by omega) (by omega))))
              clear pz p0 hG hO hk4
              go_wp2
              refine bodyPost_ret (v := .tuple #[.agg #[.int .i64 rn, .slice a n1 k, .slice b n2 m2], .slice a3 n3 k3]) (by simp [results, Try.results25, go_sem, q0.out, q1.out, q2.out]) rfl ⟨_, _, _, _, rfl, hfin.out.1, hfin.out.2.1, hfin.out.2.2⟩
            · have hA6 := (Below.refl w8.heap.size w8).alloc (Nat.le_refl _) (.cells #[.int .i64 (-1), .int .i64 0, .int .i64 10] 3)
              have hl6 := (own_lit w8 0 [-1, 0, 10] #[.int .i64 (-1), .int .i64 0, .int .i64 10] rfl (Nat.zero_le _) (by simp)).ints
              go_wp2_with fail
              refine (c_among cg _ _ [-1, 0, 10] _ (hc8.below hA6) (by omega) hl6 (by simp) (by simp) (by intro b off n c e; simp at e; omega)).mono ?_
              rintro e w6 ⟨y, rfl, hy, hc6, hk6⟩
              have hO6 : OwnI w6 W _ xs := own_off hcW (OwnI.below hO hA6) hk6
              have hk7 := (hkx.trans ((kept0 hA6).mono fun _ f => f.elim)).trans hk6
              have hz6 := hk6.size
              simp only [World.size_alloc] at hz6
              clear hO hA6 hl6 hc8 hkx hk6 hy hc6
              go_upto_region 14 with (at_builtin; refine wp_append_int _ y rfl _ _ rfl W _ xs rfl hO6 rfl (by first | rfl | simp) (by have := hlx.out; omega) (by omega) ?_; intro v5 w5 hO hg5 hB5 _)
              have hkx := keptc hk7 (keptOfB hB5 hB5.size) (F := fun q => q = cg) (fun q e1 e2 => by have e3 : W ≤ q := e2; omega)
              clear hk7 hO6 hg5 hB5
              obtain ⟨ys, hys⟩ : ∃ z, z = xs ++ [y] := ⟨_, rfl⟩
              rw [← hys] at hO
              clear hys hlx hxl
              obtain ⟨a3, k3, e3, -, -⟩ := hO.ints.out
              obtain ⟨n3, hn3⟩ : ∃ n, n = ys.length := ⟨_, rfl⟩
              replace hO := OwnI.mono hO hloW
              rw [e3] at hO ⊢
              clear e3
              rw [← hn3] at hO ⊢
              replace hn3 := Lib.hid hn3
              have hkz := hk3.trans hkx
              replace hG := hG.off hkx fun k e => by omega
              have pW := (hkx.block w2.heap.size hq7 (by omega)).trans p3
              obtain ⟨⟨x0, x1, x2⟩, -⟩ := blk3 pW
              clear hk3 hkx pW p3
              have pz := (hkz.block w.heap.size (by omega) (by omega)).trans p0
              obtain ⟨⟨c0, c1, c2⟩, g0, g1, g2⟩ := blk3 pz
              obtain ⟨⟨q0, q1, q2⟩, hk4⟩ := stored3 pz (.int .i64 rn) (.slice a n1 k) (.slice b n2 m2)
              replace q0 := Lib.hid q0
              replace q1 := Lib.hid q1
              replace q2 := Lib.hid q2
              have hfin := Lib.hid (And.intro ((hG.off hk4 fun k e => by omega).mono (show w.heap.size ≤ lo by omega)) (And.intro ((own_off2 hO hk4 (fun k e => by omega)).mono (show w.heap.size ≤ lo by omega)) ((keptc (hk00.trans (hkz.mono fun k (e : k = cg) => (.inl e : k = cg ∨ k = w.heap.size))) hk4 fun k e1 e2 => by omega).below (B := w.heap.size) (fun k e => by omega) (by omega))))
              clear pz p0 hG hO hk4
              go_wp2
              refine bodyPost_ret (v := .tuple #[.agg #[.int .i64 rn, .slice a n1 k, .slice b n2 m2], .slice a3 n3 k3]) (by simp [results, Try.results25, go_sem, q0.out, q1.out, q2.out]) rfl ⟨_, _, _, _, rfl, hfin.out.1, hfin.out.2.1, hfin.out.2.2⟩
end Go.Proofs.Ytiidphlfpiaoeaa
