/- A talk that is drawn; conditions: none. -/
import Derived.Test.YtpieaeokbblflaaT2
import Derived.Test.YtpieaeokbblflaaBuild
import Derived.Test.YtpieaeokbblflaaRk
namespace Go.Proofs.Ytpieaeokbblflaa
open Go.RowKit

def dkQ (cg : Nat) : DK cg := ⟨fun v _ => ∃ x : Int, v = .agg #[.int .i64 x, .int .i64 (-1)], fun _ _ _ h _ => h⟩
set_option maxRecDepth 100000 in
set_option maxHeartbeats 16000000 in
theorem c_talk (cg K : Nat) (rows cols : Int) (w : World) (h : CurR w cg K) (hK : K < 1070000000) :
    Calls Try.prog 104 #[.pointer (some ⟨cg, 0, none⟩), .int .i64 rows, .int .i64 cols] w fun e w' => ∃ v r, e = .returned v ∧ TalkB w' w.heap.size v r ∧ CurR w' cg (K + 1000) ∧ KeptOff (fun k => k = cg) w w' := by
  have hg := h.lt
  have hA0 := (Below.refl w.heap.size w).alloc (Nat.le_refl _) (.cells #[.slice none 0 0, .slice none 0 0, .slice none 0 0] 38)
  obtain ⟨w0, hw0⟩ : ∃ z, z = w.alloc (.cells #[.slice none 0 0, .slice none 0 0, .slice none 0 0] 38) := ⟨_, rfl⟩
  have hz0 : w0.heap.size = w.heap.size + 1 := by rw [hw0]; simp
  have p0 : w0.heap[w.heap.size]? = some (.cells #[.slice none 0 0, .slice none 0 0, .slice none 0 0] 38 (0, 0)) := by rw [hw0]; exact heap_alloc_at rfl
  rw [← hw0] at hA0
  have hk00 : KeptOff (fun k => k = cg) w w0 := (kept0 hA0).mono fun _ f => f.elim
  have hA1 := (Below.refl w0.heap.size w0).alloc (Nat.le_refl _) (.cells #[.int .i64 2, .int .i64 3, .int .i64 1, .int .i64 4, .int .i64 6] 3)
  have hl1 := (own_lit w0 0 [2, 3, 1, 4, 6] #[.int .i64 2, .int .i64 3, .int .i64 1, .int .i64 4, .int .i64 6] rfl (Nat.zero_le _) (by simp)).ints
  go_enter Try.func104, Try.ntmps104
  go_wp2_with fail
  rw [← hw0]
  clear hw0
  refine (c_among cg K _ [2, 3, 1, 4, 6] _ ((h.below hA0).below hA1) (by omega) (by rw [← hz0]; exact hl1) (by simp) (by simp) (by intro b off n c e; simp at e; omega)).mono ?_
  rintro e w1 ⟨m, rfl, hm, hc1, hk1⟩
  obtain ⟨N, rfl, hN⟩ : ∃ N : Nat, m = (N : Int) ∧ 1 ≤ N ∧ N ≤ 6 := ⟨m.toNat, by simp at hm; omega, by simp at hm; omega, by simp at hm; omega⟩
  have hk01 : KeptOff (fun k => k = cg) w0 w1 := (kept0 hA1 |>.mono fun _ f => f.elim).trans hk1
  have hz1 := hk01.size
  clear hm hA0 hA1 hl1 hk1
  obtain ⟨gb, hgb⟩ : ∃ gb, gb = w1.heap.size := ⟨_, rfl⟩
  have hA2 := (Below.refl w1.heap.size w1).alloc (Nat.le_refl _) (.cells #[.slice none 0 0, .slice none 0 0, .slice none 0 0] 38)
  obtain ⟨wa, hwa⟩ : ∃ z, z = w1.alloc (.cells #[.slice none 0 0, .slice none 0 0, .slice none 0 0] 38) := ⟨_, rfl⟩
  have hT : TalX wa gb 0 (.slice none 0 0) (.slice none 0 0) (.slice none 0 0) ⟨[], [], []⟩ := by
    rw [hwa, hgb]
    exact ⟨heap_alloc_at rfl, own_nil _ _, ownR_nil _ _ _, ⟨by simpa [flat] using World.ownsRow_nil _ _ 76 2, by simp⟩, fun _ e => by simp [Value.ownBlock] at e, Nat.zero_le _⟩
  rw [← hwa] at hA2
  have hcg : cg < gb := by omega
  have hwg : w0.heap.size ≤ gb := by omega
  have hca : CurR wa cg (K + 2) := hc1.below hA2
  have hka : KeptOff (fun k => k = cg) w0 wa := keptT hk01 (kept0 hA2) fun _ _ f => f.elim
  clear hc1 hk01 hA2
  go_upto_region 3 with fail
  rw [← hwa, ← hgb]
  clear hwa hgb hz1
  go_loopw [9] (fun i wr => ∃ (k : Nat) (r : TalkD), k ≤ N ∧ i = .int .i64 k ∧ (∃ lim v1 v2 v3, TalX wr gb lim v1 v2 v3 r) ∧ (r.p.length = k ∧ r.s.length = k ∧ r.x.length = k) ∧ CurR wr cg (K + 2 + 40 * k) ∧ KeptOff (fun k => k = cg) w0 wr) (fun i _ => N - (intOf i).toNat)
  case atStart => exact ⟨0, ⟨[], [], []⟩, Nat.zero_le _, rfl, ⟨_, _, _, _, hT⟩, ⟨rfl, rfl, rfl⟩, hca.more (by omega), hka⟩
  case round =>
    clear hT hca hka
    obtain ⟨k, r, hk, rfl, ⟨lim, v1, v2, v3, hT⟩, hr, hc, hkk⟩ := hrel
    by_cases hkN : k < N
    · have hd : decide ((k : Int) < (N : Int)) = true := by simp; omega
      go_wp2_with fail
      refine (c_pick cg _ 2 _ hc (by omega) (by omega)).mono ?_
      rintro e wo ⟨x, rfl, hx, hco, hko⟩
      have hx2 : x = 0 ∨ x = 1 := by omega
      replace hkk := hkk.trans hko
      replace hT := (hT.off hko (fun j e => by omega)).relim
      have hAe := (Below.refl wo.heap.size wo).alloc (Nat.le_refl _) (.cells #[] 3)
      have hO := own_empty wo wo.heap.size (Nat.le_refl _)
      clear hc hko hx
      rcases hx2 with rfl | rfl
      · go_upto_region 10 with fail
        obtain ⟨L, hL, hL4⟩ : ∃ L : Nat, min (max rows 0) 4 = (L : Int) ∧ L ≤ 4 := ⟨(min (max rows 0) 4).toNat, by omega, by omega⟩
        replace hL := Lib.hid hL
        have hlo := hkk.size
        have hlt := hT.lt
        go_loopw [11, 13] (fun v j wr => ∃ (l : Nat) (ys : List Int), l ≤ L ∧ j = .int .i64 l ∧ OwnI wr wo.heap.size v ys ∧ Hid (ys.length = l) ∧ CurR wr cg (K + 2 + 40 * k + 2 + 2 * l) ∧ KeptOff (fun k => k = cg) wo wr) (fun _ j _ => L - (intOf j).toNat)
        case atStart => exact ⟨0, [], Nat.zero_le _, rfl, hO, Lib.hid rfl, hco.below hAe, kalloc _⟩
        case round =>
          clear hO hAe hco
          obtain ⟨l, ys, hl, rfl, hO, hyl, hcr, hko⟩ := hrel
          have hzo := hko.size
          go_wp2_with fail
          refine (c_l2Near rows _).mono ?_
          rintro e _ ⟨rfl, rfl⟩
          rw [hL.out]
          by_cases hlL : l < L
          · have hd4 : decide ((l : Int) < (L : Int)) = true := by simp; omega
            obtain ⟨wp, rfl⟩ : ∃ wp : World, wp = wr := ⟨_, rfl⟩
            go_wp2_with fail
            refine (c_pick cg _ 2 _ hcr (by omega) (by omega)).mono ?_
            rintro e w5 ⟨x, rfl, hx, hc5, hk5⟩
            have hO5 : OwnI w5 wo.heap.size _ ys := own_off (show cg < wo.heap.size by omega) hO hk5
            have hk6 := hko.trans hk5
            have hz5 := hk6.size
            have hyl2 : ys.length < 1099511627776 := by have := hyl.out; omega
            clear hO hko hk5 hcr
            go_wp2_with (at_builtin; refine wp_append_int _ _ rfl _ _ rfl wo.heap.size _ ys rfl hO5 rfl (by first | rfl | simp) hyl2 (by omega) ?_; intro v' w6 hn6 hg6 hB6 _)
            have hc6 : CurR w6 cg _ := hc5.off (keptOfB hB6 hB6.size) fun q hq => by omega
            have hk7 := keptb hk6 hB6
            have hl6 : Hid ((ys ++ [(x : Int)]).length = l + 1) := Lib.hid (by have := hyl.out; simp; omega)
            go_roundw
            case rel => first | exact ⟨l + 1, _, by omega, by go_num, hn6, hl6, hc6.more (by omega), hk7⟩ | ((repeat apply Exists.intro); exact ⟨⟨l + 1, _, by omega, rfl, hn6, hl6, hc6.more (by omega), hk7⟩, rfl⟩)
            case measure => simp [intOf]; omega
          · obtain rfl : l = L := by omega
            have hd4 : decide ((l : Int) < (l : Int)) = false := by simp
            obtain ⟨wp, rfl⟩ : ∃ wp : World, wp = wr := ⟨_, rfl⟩
            obtain ⟨ay, ky, rfl, -⟩ := hO.ints.out
            have hlny : ys.length ≤ 4 := by have := hyl.out; omega
            obtain ⟨ny, hny⟩ : ∃ z, z = ys.length := ⟨_, rfl⟩
            rw [← hny] at hO hlny
            rw [← hny]
            replace hny := Lib.hid hny
            go_upto_region 14 with fail
            obtain ⟨nb, hnb⟩ : ∃ z, z = wp.heap.size := ⟨_, rfl⟩
            have hA3 := (Below.refl wp.heap.size wp).alloc (Nat.le_refl _) (.cells #[.int .i64 0, .int .i64 0] 76)
            obtain ⟨wn, hwn⟩ : ∃ z, z = wp.alloc (.cells #[.int .i64 0, .int .i64 0] 76) := ⟨_, rfl⟩
            have pn : wn.heap[nb]? = some (.cells #[.int .i64 0, .int .i64 0] 76 (0, 0)) := by rw [hwn, hnb]; exact heap_alloc_at rfl
            have hzn : wn.heap.size = nb + 1 := by rw [hwn, hnb]; simp
            rw [← hwn] at hA3
            have hOn := OwnI.below hO hA3
            have hcn := hcr.below hA3
            have hkn : KeptOff (fun k => k = cg) wo wn := keptT hko (kept0 hA3) fun _ _ f => f.elim
            have hnbo : wo.heap.size ≤ nb := by omega
            have hOb : Hid (∀ g, (Value.slice ay ny ky).ownBlock = some g → wo.heap.size ≤ g ∧ g < nb) := Lib.hid fun g e => by have := OwnS.lt hO g e; omega
            clear hO hcr hko hzo
            go_upto_region 15 with fail
            rw [← hwn, ← hnb]
            clear hwn hnb hA3
            go_loopw [15] (fun b wr => ∃ (q : Nat) (a c : Int), q ≤ 2 ∧ b = .int .i64 q ∧ wr.heap[nb]? = some (.cells #[.int .i64 a, .int .i64 c] 76 (0, 0)) ∧ CurR wr cg (K + 2 + 40 * k + 12 + 6 * q) ∧ KeptOff (fun k => k = cg ∨ k = nb) wn wr) (fun b _ => 2 - (intOf b).toNat)
            case atStart => exact ⟨0, 0, 0, by omega, rfl, pn, hcn.more (by omega), KeptOff.refl _ _⟩
            case round =>
              clear pn hcn
              obtain ⟨q, a, c, hq, rfl, pn, hcq, hkq⟩ := hrel
              obtain ⟨wq, rfl⟩ : ∃ wq : World, wq = wr := ⟨_, rfl⟩
              have hq3 : q = 0 ∨ q = 1 ∨ q = 2 := by omega
              rcases hq3 with rfl | rfl | rfl
              · skip
                go_wp2_with fail
                refine (c_l1MostN _ 1 _).mono ?_
                rintro e _ ⟨rfl, rfl⟩
                go_wp2_with fail
                refine (c_pick cg _ _ _ hcq (by omega) (by omega)).mono ?_
                rintro e wy ⟨y, rfl, hy, hcy, hky⟩
                have hy6 : y ≤ 6 := by omega
                have py := kblk hky pn (by omega)
                have hkw := (hkq.trans (hky.mono fun _ e => .inl e)).trans ((keptOff_set wy nb 0 (.int .i64 ((k : Int) + 1 + (y : Int)))).mono fun _ e => .inr e)
                have hcz := hcy.off (keptOff_set wy nb 0 (.int .i64 ((k : Int) + 1 + (y : Int)))) fun j e => by omega
                obtain ⟨⟨c0, c1⟩, f0, f1⟩ := blk2 py
                have hpz : ∃ a1 c1, (wy.setCell ⟨nb, 0, none⟩ (.int .i64 ((k : Int) + 1 + (y : Int)))).heap[nb]? = some (.cells #[.int .i64 a1, .int .i64 c1] 76 (0, 0)) ∧ (wy.setCell ⟨nb, 0, none⟩ (.int .i64 ((k : Int) + 1 + (y : Int)))).cell? ⟨nb, 0, none⟩ = some (.int .i64 ((k : Int) + 1 + (y : Int))) :=
                  ⟨_, _, blk_set py, by first | exact (blk2 (v1 := .int .i64 ((k : Int) + 1 + (y : Int))) (blk_set py)).1.1 | exact (blk2 (v2 := .int .i64 ((k : Int) + 1 + (y : Int))) (blk_set py)).1.2⟩
                clear hkq hky hcq hcy pn hy py
                go_upto_region 18 with fail
                obtain ⟨wz, hwz⟩ : ∃ z, z = wy.setCell ⟨nb, 0, none⟩ (.int .i64 ((k : Int) + 1 + (y : Int))) := ⟨_, rfl⟩
                rw [← hwz] at hpz hcz hkw
                rw [← hwz]
                clear hwz c0 c1 f0 f1
                obtain ⟨a1, e1, pz, lz⟩ := hpz
                obtain ⟨Z, hZ⟩ : ∃ Z : Int, Z = (k : Int) + 1 + (y : Int) := ⟨_, rfl⟩
                rw [← hZ] at lz
                replace hZ := Lib.hid hZ
                by_cases hge : Z ≥ (N : Int)
                · have hd5 : decide (Z ≥ (N : Int)) = true := by simp [hge]
                  go_wp2_with fail
                  clear lz
                  refine (c_pick cg _ 2 _ hcz (by omega) (by omega)).mono ?_
                  rintro e w9 ⟨x9, rfl, hx9, hc9, hk9⟩
                  have p9 := kblk hk9 pz (by omega)
                  have hk99 := (hkw.trans (hk9.mono fun _ e => .inl e)).trans ((keptOff_set w9 nb 0 (.int .i64 (-1 - (x9 : Int)))).mono fun _ e => .inr e)
                  have hc99 := hc9.off (keptOff_set w9 nb 0 (.int .i64 (-1 - (x9 : Int)))) fun j e => by omega
                  obtain ⟨⟨c0, c1⟩, f0, f1⟩ := blk2 p9
                  have hp99 : ∃ a1 c1, (w9.setCell ⟨nb, 0, none⟩ (.int .i64 (-1 - (x9 : Int)))).heap[nb]? = some (.cells #[.int .i64 a1, .int .i64 c1] 76 (0, 0)) := ⟨_, _, blk_set p9⟩
                  clear pz hcz hkw hk9 hc9 p9
                  have hx92 : x9 < 2 := by omega
                  go_wp2
                  go_roundw
                  case rel =>
                    obtain ⟨a1, e1, p99⟩ := hp99
                    exact ⟨1, a1, e1, by omega, by go_num, p99, hc99.more (by omega), hk99⟩
                  case measure => simp [intOf]
                · have hd5 : decide (Z ≥ (N : Int)) = false := by simp; omega
                  go_wp2_with fail
                  refine (c_one cg _ 3 _ hcz (by omega) (by omega)).mono ?_
                  rintro e w8 ⟨b, rfl, hc8, hk8⟩
                  have p8 := kblk hk8 pz (by omega)
                  have hk8' := hkw.trans (hk8.mono fun _ e => .inl e)
                  clear pz lz hcz hkw hk8
                  cases b
                  · go_wp2
                    go_roundw
                    case rel => exact ⟨1, _, _, by omega, by go_num, p8, hc8.more (by omega), hk8'⟩
                    case measure => simp [intOf]
                  · go_wp2_with fail
                    refine (c_pick cg _ 2 _ hc8 (by omega) (by omega)).mono ?_
                    rintro e w9 ⟨x9, rfl, hx9, hc9, hk9⟩
                    have p9 := kblk hk9 p8 (by omega)
                    have hk99 := (hk8'.trans (hk9.mono fun _ e => .inl e)).trans ((keptOff_set w9 nb 0 (.int .i64 (-1 - (x9 : Int)))).mono fun _ e => .inr e)
                    have hc99 := hc9.off (keptOff_set w9 nb 0 (.int .i64 (-1 - (x9 : Int)))) fun j e => by omega
                    obtain ⟨⟨c0, c1⟩, f0, f1⟩ := blk2 p9
                    have hp99 : ∃ a1 c1, (w9.setCell ⟨nb, 0, none⟩ (.int .i64 (-1 - (x9 : Int)))).heap[nb]? = some (.cells #[.int .i64 a1, .int .i64 c1] 76 (0, 0)) := ⟨_, _, blk_set p9⟩
                    clear p8 hc8 hk8' hk9 hc9 p9
                    have hx92 : x9 < 2 := by omega
                    go_wp2
                    go_roundw
                    case rel =>
                      obtain ⟨a1, e1, p99⟩ := hp99
                      exact ⟨1, a1, e1, by omega, by go_num, p99, hc99.more (by omega), hk99⟩
                    case measure => simp [intOf]
              · skip
                go_wp2_with fail
                refine (c_l1MostN _ 1 _).mono ?_
                rintro e _ ⟨rfl, rfl⟩
                go_wp2_with fail
                refine (c_pick cg _ _ _ hcq (by omega) (by omega)).mono ?_
                rintro e wy ⟨y, rfl, hy, hcy, hky⟩
                have hy6 : y ≤ 6 := by omega
                have py := kblk hky pn (by omega)
                have hkw := (hkq.trans (hky.mono fun _ e => .inl e)).trans ((keptOff_set wy nb 1 (.int .i64 ((k : Int) + 1 + (y : Int)))).mono fun _ e => .inr e)
                have hcz := hcy.off (keptOff_set wy nb 1 (.int .i64 ((k : Int) + 1 + (y : Int)))) fun j e => by omega
                obtain ⟨⟨c0, c1⟩, f0, f1⟩ := blk2 py
                have hpz : ∃ a1 c1, (wy.setCell ⟨nb, 1, none⟩ (.int .i64 ((k : Int) + 1 + (y : Int)))).heap[nb]? = some (.cells #[.int .i64 a1, .int .i64 c1] 76 (0, 0)) ∧ (wy.setCell ⟨nb, 1, none⟩ (.int .i64 ((k : Int) + 1 + (y : Int)))).cell? ⟨nb, 1, none⟩ = some (.int .i64 ((k : Int) + 1 + (y : Int))) :=
                  ⟨_, _, blk_set py, by first | exact (blk2 (v1 := .int .i64 ((k : Int) + 1 + (y : Int))) (blk_set py)).1.1 | exact (blk2 (v2 := .int .i64 ((k : Int) + 1 + (y : Int))) (blk_set py)).1.2⟩
                clear hkq hky hcq hcy pn hy py
                go_upto_region 18 with fail
                obtain ⟨wz, hwz⟩ : ∃ z, z = wy.setCell ⟨nb, 1, none⟩ (.int .i64 ((k : Int) + 1 + (y : Int))) := ⟨_, rfl⟩
                rw [← hwz] at hpz hcz hkw
                rw [← hwz]
                clear hwz c0 c1 f0 f1
                obtain ⟨a1, e1, pz, lz⟩ := hpz
                obtain ⟨Z, hZ⟩ : ∃ Z : Int, Z = (k : Int) + 1 + (y : Int) := ⟨_, rfl⟩
                rw [← hZ] at lz
                replace hZ := Lib.hid hZ
                by_cases hge : Z ≥ (N : Int)
                · have hd5 : decide (Z ≥ (N : Int)) = true := by simp [hge]
                  go_wp2_with fail
                  clear lz
                  refine (c_pick cg _ 2 _ hcz (by omega) (by omega)).mono ?_
                  rintro e w9 ⟨x9, rfl, hx9, hc9, hk9⟩
                  have p9 := kblk hk9 pz (by omega)
                  have hk99 := (hkw.trans (hk9.mono fun _ e => .inl e)).trans ((keptOff_set w9 nb 1 (.int .i64 (-1 - (x9 : Int)))).mono fun _ e => .inr e)
                  have hc99 := hc9.off (keptOff_set w9 nb 1 (.int .i64 (-1 - (x9 : Int)))) fun j e => by omega
                  obtain ⟨⟨c0, c1⟩, f0, f1⟩ := blk2 p9
                  have hp99 : ∃ a1 c1, (w9.setCell ⟨nb, 1, none⟩ (.int .i64 (-1 - (x9 : Int)))).heap[nb]? = some (.cells #[.int .i64 a1, .int .i64 c1] 76 (0, 0)) := ⟨_, _, blk_set p9⟩
                  clear pz hcz hkw hk9 hc9 p9
                  have hx92 : x9 < 2 := by omega
                  go_wp2
                  go_roundw
                  case rel =>
                    obtain ⟨a1, e1, p99⟩ := hp99
                    exact ⟨2, a1, e1, by omega, by go_num, p99, hc99.more (by omega), hk99⟩
                  case measure => simp [intOf]
                · have hd5 : decide (Z ≥ (N : Int)) = false := by simp; omega
                  go_wp2_with fail
                  refine (c_one cg _ 3 _ hcz (by omega) (by omega)).mono ?_
                  rintro e w8 ⟨b, rfl, hc8, hk8⟩
                  have p8 := kblk hk8 pz (by omega)
                  have hk8' := hkw.trans (hk8.mono fun _ e => .inl e)
                  clear pz lz hcz hkw hk8
                  cases b
                  · go_wp2
                    go_roundw
                    case rel => exact ⟨2, _, _, by omega, by go_num, p8, hc8.more (by omega), hk8'⟩
                    case measure => simp [intOf]
                  · go_wp2_with fail
                    refine (c_pick cg _ 2 _ hc8 (by omega) (by omega)).mono ?_
                    rintro e w9 ⟨x9, rfl, hx9, hc9, hk9⟩
                    have p9 := kblk hk9 p8 (by omega)
                    have hk99 := (hk8'.trans (hk9.mono fun _ e => .inl e)).trans ((keptOff_set w9 nb 1 (.int .i64 (-1 - (x9 : Int)))).mono fun _ e => .inr e)
                    have hc99 := hc9.off (keptOff_set w9 nb 1 (.int .i64 (-1 - (x9 : Int)))) fun j e => by omega
                    obtain ⟨⟨c0, c1⟩, f0, f1⟩ := blk2 p9
                    have hp99 : ∃ a1 c1, (w9.setCell ⟨nb, 1, none⟩ (.int .i64 (-1 - (x9 : Int)))).heap[nb]? = some (.cells #[.int .i64 a1, .int .i64 c1] 76 (0, 0)) := ⟨_, _, blk_set p9⟩
                    clear p8 hc8 hk8' hk9 hc9 p9
                    have hx92 : x9 < 2 := by omega
                    go_wp2
                    go_roundw
                    case rel =>
                      obtain ⟨a1, e1, p99⟩ := hp99
                      exact ⟨2, a1, e1, by omega, by go_num, p99, hc99.more (by omega), hk99⟩
                    case measure => simp [intOf]
              · go_upto_region 20 with fail
                have hkoq : KeptOff (fun k => k = cg) wo wq := keptT hkn hkq (fun j h1 h2 => by omega)
                have hTq := hT.off hkoq (fun j e => by omega)
                have hOq : OwnI wq wo.heap.size (.slice ay ny ky) ys := OwnI.off hOn hkq (fun g e f => by have := hOb.out g e; omega)
                have hv1 : Hid (∀ g, v1.ownBlock = some g → gb + 1 ≤ g ∧ g < wo.heap.size) := Lib.hid fun g e => OwnS.lt hT.p g e
                have hv2 : Hid (∀ g, v2.ownBlock = some g → gb + 1 ≤ g ∧ g < wo.heap.size) := Lib.hid fun g e => (hT.s2 g e).2
                have hv3 : Hid (∀ g, v3.ownBlock = some g → gb + 1 ≤ g ∧ g < wo.heap.size) := Lib.hid fun g e => OwnD.lt hT.x g e
                have hkq0 := hkk.trans hkoq
                have hzq := hkoq.size
                have hnq : nb < wq.heap.size := (Array.getElem?_eq_some_iff.1 pn).1
                clear hT hkk hkn hkq hOn hkoq
                have hA4 := (Below.refl wq.heap.size wq).alloc (Nat.le_refl _) (.cells #[.int .i64 0] 3)
                have hT4 := hTq.below hA4
                have hO4 := OwnI.below hOq hA4
                have pn4 := blk_later hA4 pn
                have hc4 := hcq.below hA4
                have hk4 : KeptOff (fun k => k = cg) w0 (wq.alloc (.cells #[.int .i64 0] 3)) := keptT hkq0 (kept0 hA4) fun _ _ f => f.elim
                obtain ⟨⟨z0, z1, z2⟩, -⟩ := blk3 hTq.box
                clear hTq hOq pn hcq hkq0 hA4 z1 z2
                obtain ⟨hr1, hr2, hr3⟩ := hr
                have hl6 : (r.p ++ [(0 : Int)]).length = k + 1 := by simp [hr1]
                go_upto_region 21 with (at_builtin; refine wp_append_intH _ rfl _ _ rfl (gb + 1) v1 r.p rfl hT4.p 0 rfl (World.cell?_alloc_at _ _ _ _ rfl) (by omega) (by simp; omega) ?_; intro u1 w6 h61 h62 h63; obtain ⟨a6, k6, rfl, -⟩ := h61.ints.out; rw [hl6] at h61 h63; rw [hl6]; have hb6 := hT4.grown1 h62; obtain ⟨⟨y0, y1, y2⟩, g0, g1, g2⟩ := blk3 hb6; obtain ⟨hT6, hk6⟩ := hT4.addP 0 h61 h62 h63; replace hT6 := Lib.hid hT6; replace hk6 := Lib.hid hk6; have hne6 : Hid (∀ g, (Value.slice a6 (k + 1) k6).ownBlock = some g → g < wo.heap.size ∨ nb < g) := Lib.hid (fun g e => by (rcases h63 with h | h; (left; exact (hv1.out g (h ▸ e)).2); (right; rw [h] at e; injection e with e; simp at e; omega))); clear h61 h62 h63 hb6 y1 y2 g1 g2 z0)
                obtain ⟨w7, hw7⟩ : ∃ z, z = w6.setCell ⟨gb, 0, none⟩ (.slice a6 (k + 1) k6) := ⟨_, rfl⟩
                rw [← hw7] at hT6 hk6
                rw [← hw7]
                clear hw7 y0 g0
                have hzA : (wq.alloc (.cells #[.int .i64 0] 3)).heap.size = wq.heap.size + 1 := by simp
                have hO7 := OwnI.off hO4 hk6.out (fun g e f => by have := hOb.out g e; exact f.elim (fun f => by omega) (fun f => by have := hv1.out g f; omega))
                have pn7 := (hk6.out.block nb (by omega) (fun f => f.elim (fun f => by omega) (fun f => by have := hv1.out nb f; omega))).trans pn4
                have hc7 := hc4.off hk6.out (fun j f => f.elim (fun f => by omega) (fun f => by have := hv1.out j f; omega))
                have hk7 := keptT hk4 hk6.out (fun j h1 f => f.elim (fun f => by omega) (fun f => by have := hv1.out j f; omega))
                have hz7 := hk6.out.size
                rw [hzA] at hz7
                clear hT4 hO4 pn4 hc4 hk4 hk6 hzA hv1
                have hA8 := (Below.refl w7.heap.size w7).alloc (Nat.le_refl _) (.cells #[.slice ay ny ky] 31)
                have hT8 := hT6.out.below hA8
                have hO8 := OwnI.below hO7 hA8
                have pn8 := blk_later hA8 pn7
                have hc8 := hc7.below hA8
                have hk8 : KeptOff (fun k => k = cg) w0 (w7.alloc (.cells #[.slice ay ny ky] 31)) := keptT hk7 (kept0 hA8) fun _ _ f => f.elim
                obtain ⟨⟨-, z1, -⟩, -⟩ := blk3 hT6.out.box
                clear hT6 hO7 pn7 hc7 hk7 hA8
                have hl9 : (r.s ++ [ys]).length = k + 1 := by simp [hr2]
                have hRF : Hid (∀ g, (Value.slice ay ny ky).ownBlock = some g → ¬ ((Value.slice a6 (k + 1) k6).ownBlock ≠ some g ∧ v3.ownBlock ≠ some g ∧ g < wo.heap.size)) := Lib.hid fun g e f => by have := hOb.out g e; have := f.2.2; omega
                have hRW : Hid (∀ g, (Value.slice ay ny ky).ownBlock = some g → (Value.slice a6 (k + 1) k6).ownBlock ≠ some g ∧ v3.ownBlock ≠ some g ∧ g < w7.heap.size) := Lib.hid fun g e => ⟨fun f => by have := hOb.out g e; have := hne6.out g f; omega, fun f => by have := hOb.out g e; have := hv3.out g f; omega, by have := hOb.out g e; omega⟩
                go_upto_region 22 with (at_builtin; refine wp_append_rowG _ rfl _ _ rfl (gb + 1) _ v2 r.s rfl hT8.s (.slice ay ny ky) ys (hO8.mono (by omega)) hRF.out rfl (World.cell?_alloc_at _ _ _ _ rfl) (by omega) (by simp; omega) ?_; intro u2 w9 h91 h92 _; have hR9 := h91 (fun _ => True) (fun _ _ => trivial) (fun _ _ => trivial) (fun _ _ _ => trivial); obtain ⟨a9, k9, rfl, -⟩ := hR9.rows.out; rw [hl9] at h91; rw [hl9]; have hb9 := hT8.grown2 h92; obtain ⟨⟨y0, y1, y2⟩, g0, g1, g2⟩ := blk3 hb9; have hz9 := h92.size; obtain ⟨hT9, hk9⟩ := hT8.addS ys (fun g e => by have := hRW.out g e; simp at hz9; exact ⟨this.1, this.2.1, by omega⟩) h91 h92; replace hT9 := Lib.hid hT9; replace hk9 := Lib.hid hk9; replace hz9 := Lib.hid hz9; clear h91 h92 hR9 hb9 y0 y2 g0 g2 z1)
                obtain ⟨w10, hw10⟩ : ∃ z, z = w9.setCell ⟨gb, 1, none⟩ (.slice a9 (k + 1) k9) := ⟨_, rfl⟩
                rw [← hw10] at hT9 hk9
                rw [← hw10]
                clear hw10 y1 g1 hz9 hRF hRW
                have hzA : (w7.alloc (.cells #[.slice ay ny ky] 31)).heap.size = w7.heap.size + 1 := by simp
                have pn10 := (hk9.out.block nb (by omega) (fun f => f.elim (fun f => by omega) (fun f => by have := hv2.out nb f; omega))).trans pn8
                have hc10 := hc8.off hk9.out (fun j f => f.elim (fun f => by omega) (fun f => by have := hv2.out j f; omega))
                have hk10 := keptT hk8 hk9.out (fun j h1 f => f.elim (fun f => by omega) (fun f => by have := hv2.out j f; omega))
                have hz10 := hk9.out.size
                rw [hzA] at hz10
                clear hT8 hO8 pn8 hc8 hk8 hk9 hzA hv2 hne6 hOb
                have hA11 := (Below.refl w10.heap.size w10).alloc (Nat.le_refl _) (.cells #[.int .i64 a, .int .i64 c] 76)
                have hT11 := hT9.out.below hA11
                have hc11 := hc10.below hA11
                have hk11 : KeptOff (fun k => k = cg) w0 (w10.alloc (.cells #[.int .i64 a, .int .i64 c] 76)) := keptT hk10 (kept0 hA11) fun _ _ f => f.elim
                obtain ⟨⟨-, -, z2⟩, -⟩ := blk3 hT9.out.box
                obtain ⟨⟨n0, n1⟩, -⟩ := blk2 pn10
                clear hT9 pn10 hc10 hk10 hA11
                have hl12 : (r.x ++ [(a, c)]).length = k + 1 := by simp [hr3]
                go_wp2_with (at_builtin; refine wp_append_pairG _ rfl _ _ rfl (gb + 1) v3 r.x rfl hT11.x a c rfl (World.cell?_alloc_at _ _ _ _ rfl) (World.cell?_alloc_at _ _ _ _ rfl) (by omega) (by simp; omega) ?_; intro u3 w12 h121 h122 h123; obtain ⟨a12, k12, rfl, -⟩ := h121.pairs.out; rw [hl12] at h121 h123; rw [hl12]; have hb12 := hT11.grown3 h122; obtain ⟨⟨y0, y1, y2⟩, g0, g1, g2⟩ := blk3 hb12; obtain ⟨hT12, hk12⟩ := hT11.addX (a, c) h121 h122 h123; replace hT12 := Lib.hid hT12; replace hk12 := Lib.hid hk12; clear h121 h122 h123 hb12 y0 y1 g0 g1 z2)
                have hc13 := hc11.off hk12.out (fun j f => f.elim (fun f => by omega) (fun f => by have := hv3.out j f; omega))
                have hk13 := keptT hk11 hk12.out (fun j h1 f => f.elim (fun f => by omega) (fun f => by have := hv3.out j f; omega))
                go_roundw
                case rel => first | exact ⟨k + 1, ⟨r.p ++ [0], r.s ++ [ys], r.x ++ [(a, c)]⟩, by omega, by go_num, ⟨_, _, _, _, hT12.out⟩, ⟨hl6, hl9, hl12⟩, hc13.more (by omega), hk13⟩ | ((repeat apply Exists.intro); exact ⟨⟨k + 1, ⟨r.p ++ [0], r.s ++ [ys], r.x ++ [(a, c)]⟩, by omega, rfl, ⟨_, _, _, _, hT12.out⟩, ⟨hl6, hl9, hl12⟩, hc13.more (by omega), hk13⟩, rfl⟩)
                case measure => simp [intOf]; omega
      · go_upto_region 10 with fail
        skip
        obtain ⟨L, hL, hL4⟩ : ∃ L : Nat, min (max cols 0) 4 = (L : Int) ∧ L ≤ 4 := ⟨(min (max cols 0) 4).toNat, by omega, by omega⟩
        replace hL := Lib.hid hL
        have hlo := hkk.size
        have hlt := hT.lt
        go_loopw [11, 13] (fun v j wr => ∃ (l : Nat) (ys : List Int), l ≤ L ∧ j = .int .i64 l ∧ OwnI wr wo.heap.size v ys ∧ Hid (ys.length = l) ∧ CurR wr cg (K + 2 + 40 * k + 2 + 2 * l) ∧ KeptOff (fun k => k = cg) wo wr) (fun _ j _ => L - (intOf j).toNat)
        case atStart => exact ⟨0, [], Nat.zero_le _, rfl, hO, Lib.hid rfl, hco.below hAe, kalloc _⟩
        case round =>
          clear hO hAe hco
          obtain ⟨l, ys, hl, rfl, hO, hyl, hcr, hko⟩ := hrel
          have hzo := hko.size
          go_wp2_with fail
          refine (c_l2Near cols _).mono ?_
          rintro e _ ⟨rfl, rfl⟩
          rw [hL.out]
          by_cases hlL : l < L
          · have hd4 : decide ((l : Int) < (L : Int)) = true := by simp; omega
            obtain ⟨wp, rfl⟩ : ∃ wp : World, wp = wr := ⟨_, rfl⟩
            go_wp2_with fail
            refine (c_pick cg _ 2 _ hcr (by omega) (by omega)).mono ?_
            rintro e w5 ⟨x, rfl, hx, hc5, hk5⟩
            have hO5 : OwnI w5 wo.heap.size _ ys := own_off (show cg < wo.heap.size by omega) hO hk5
            have hk6 := hko.trans hk5
            have hz5 := hk6.size
            have hyl2 : ys.length < 1099511627776 := by have := hyl.out; omega
            clear hO hko hk5 hcr
            go_wp2_with (at_builtin; refine wp_append_int _ _ rfl _ _ rfl wo.heap.size _ ys rfl hO5 rfl (by first | rfl | simp) hyl2 (by omega) ?_; intro v' w6 hn6 hg6 hB6 _)
            have hc6 : CurR w6 cg _ := hc5.off (keptOfB hB6 hB6.size) fun q hq => by omega
            have hk7 := keptb hk6 hB6
            have hl6 : Hid ((ys ++ [(x : Int)]).length = l + 1) := Lib.hid (by have := hyl.out; simp; omega)
            go_roundw
            case rel => first | exact ⟨l + 1, _, by omega, by go_num, hn6, hl6, hc6.more (by omega), hk7⟩ | ((repeat apply Exists.intro); exact ⟨⟨l + 1, _, by omega, rfl, hn6, hl6, hc6.more (by omega), hk7⟩, rfl⟩)
            case measure => simp [intOf]; omega
          · obtain rfl : l = L := by omega
            have hd4 : decide ((l : Int) < (l : Int)) = false := by simp
            obtain ⟨wp, rfl⟩ : ∃ wp : World, wp = wr := ⟨_, rfl⟩
            obtain ⟨ay, ky, rfl, -⟩ := hO.ints.out
            have hlny : ys.length ≤ 4 := by have := hyl.out; omega
            obtain ⟨ny, hny⟩ : ∃ z, z = ys.length := ⟨_, rfl⟩
            rw [← hny] at hO hlny
            rw [← hny]
            replace hny := Lib.hid hny
            go_upto_region 14 with fail
            obtain ⟨nb, hnb⟩ : ∃ z, z = wp.heap.size := ⟨_, rfl⟩
            have hA3 := (Below.refl wp.heap.size wp).alloc (Nat.le_refl _) (.cells #[.int .i64 0, .int .i64 0] 76)
            obtain ⟨wn, hwn⟩ : ∃ z, z = wp.alloc (.cells #[.int .i64 0, .int .i64 0] 76) := ⟨_, rfl⟩
            have pn : wn.heap[nb]? = some (.cells #[.int .i64 0, .int .i64 0] 76 (0, 0)) := by rw [hwn, hnb]; exact heap_alloc_at rfl
            have hzn : wn.heap.size = nb + 1 := by rw [hwn, hnb]; simp
            rw [← hwn] at hA3
            have hOn := OwnI.below hO hA3
            have hcn := hcr.below hA3
            have hkn : KeptOff (fun k => k = cg) wo wn := keptT hko (kept0 hA3) fun _ _ f => f.elim
            have hnbo : wo.heap.size ≤ nb := by omega
            have hOb : Hid (∀ g, (Value.slice ay ny ky).ownBlock = some g → wo.heap.size ≤ g ∧ g < nb) := Lib.hid fun g e => by have := OwnS.lt hO g e; omega
            clear hO hcr hko hzo
            go_upto_region 15 with fail
            rw [← hwn, ← hnb]
            clear hwn hnb hA3
            go_loopw [15] (fun b wr => ∃ (q : Nat) (a c : Int), q ≤ 2 ∧ b = .int .i64 q ∧ wr.heap[nb]? = some (.cells #[.int .i64 a, .int .i64 c] 76 (0, 0)) ∧ CurR wr cg (K + 2 + 40 * k + 12 + 6 * q) ∧ KeptOff (fun k => k = cg ∨ k = nb) wn wr) (fun b _ => 2 - (intOf b).toNat)
            case atStart => exact ⟨0, 0, 0, by omega, rfl, pn, hcn.more (by omega), KeptOff.refl _ _⟩
            case round =>
              clear pn hcn
              obtain ⟨q, a, c, hq, rfl, pn, hcq, hkq⟩ := hrel
              obtain ⟨wq, rfl⟩ : ∃ wq : World, wq = wr := ⟨_, rfl⟩
              have hq3 : q = 0 ∨ q = 1 ∨ q = 2 := by omega
              rcases hq3 with rfl | rfl | rfl
              · skip
                go_wp2_with fail
                refine (c_l1MostN _ 1 _).mono ?_
                rintro e _ ⟨rfl, rfl⟩
                go_wp2_with fail
                refine (c_pick cg _ _ _ hcq (by omega) (by omega)).mono ?_
                rintro e wy ⟨y, rfl, hy, hcy, hky⟩
                have hy6 : y ≤ 6 := by omega
                have py := kblk hky pn (by omega)
                have hkw := (hkq.trans (hky.mono fun _ e => .inl e)).trans ((keptOff_set wy nb 0 (.int .i64 ((k : Int) + 1 + (y : Int)))).mono fun _ e => .inr e)
                have hcz := hcy.off (keptOff_set wy nb 0 (.int .i64 ((k : Int) + 1 + (y : Int)))) fun j e => by omega
                obtain ⟨⟨c0, c1⟩, f0, f1⟩ := blk2 py
                have hpz : ∃ a1 c1, (wy.setCell ⟨nb, 0, none⟩ (.int .i64 ((k : Int) + 1 + (y : Int)))).heap[nb]? = some (.cells #[.int .i64 a1, .int .i64 c1] 76 (0, 0)) ∧ (wy.setCell ⟨nb, 0, none⟩ (.int .i64 ((k : Int) + 1 + (y : Int)))).cell? ⟨nb, 0, none⟩ = some (.int .i64 ((k : Int) + 1 + (y : Int))) :=
                  ⟨_, _, blk_set py, by first | exact (blk2 (v1 := .int .i64 ((k : Int) + 1 + (y : Int))) (blk_set py)).1.1 | exact (blk2 (v2 := .int .i64 ((k : Int) + 1 + (y : Int))) (blk_set py)).1.2⟩
                clear hkq hky hcq hcy pn hy py
                go_upto_region 18 with fail
                obtain ⟨wz, hwz⟩ : ∃ z, z = wy.setCell ⟨nb, 0, none⟩ (.int .i64 ((k : Int) + 1 + (y : Int))) := ⟨_, rfl⟩
                rw [← hwz] at hpz hcz hkw
                rw [← hwz]
                clear hwz c0 c1 f0 f1
                obtain ⟨a1, e1, pz, lz⟩ := hpz
                obtain ⟨Z, hZ⟩ : ∃ Z : Int, Z = (k : Int) + 1 + (y : Int) := ⟨_, rfl⟩
                rw [← hZ] at lz
                replace hZ := Lib.hid hZ
                by_cases hge : Z ≥ (N : Int)
                · have hd5 : decide (Z ≥ (N : Int)) = true := by simp [hge]
                  go_wp2_with fail
                  clear lz
                  refine (c_pick cg _ 2 _ hcz (by omega) (by omega)).mono ?_
                  rintro e w9 ⟨x9, rfl, hx9, hc9, hk9⟩
                  have p9 := kblk hk9 pz (by omega)
                  have hk99 := (hkw.trans (hk9.mono fun _ e => .inl e)).trans ((keptOff_set w9 nb 0 (.int .i64 (-1 - (x9 : Int)))).mono fun _ e => .inr e)
                  have hc99 := hc9.off (keptOff_set w9 nb 0 (.int .i64 (-1 - (x9 : Int)))) fun j e => by omega
                  obtain ⟨⟨c0, c1⟩, f0, f1⟩ := blk2 p9
                  have hp99 : ∃ a1 c1, (w9.setCell ⟨nb, 0, none⟩ (.int .i64 (-1 - (x9 : Int)))).heap[nb]? = some (.cells #[.int .i64 a1, .int .i64 c1] 76 (0, 0)) := ⟨_, _, blk_set p9⟩
                  clear pz hcz hkw hk9 hc9 p9
                  have hx92 : x9 < 2 := by omega
                  go_wp2
                  go_roundw
                  case rel =>
                    obtain ⟨a1, e1, p99⟩ := hp99
                    exact ⟨1, a1, e1, by omega, by go_num, p99, hc99.more (by omega), hk99⟩
                  case measure => simp [intOf]
                · have hd5 : decide (Z ≥ (N : Int)) = false := by simp; omega
                  go_wp2_with fail
                  refine (c_one cg _ 3 _ hcz (by omega) (by omega)).mono ?_
                  rintro e w8 ⟨b, rfl, hc8, hk8⟩
                  have p8 := kblk hk8 pz (by omega)
                  have hk8' := hkw.trans (hk8.mono fun _ e => .inl e)
                  clear pz lz hcz hkw hk8
                  cases b
                  · go_wp2
                    go_roundw
                    case rel => exact ⟨1, _, _, by omega, by go_num, p8, hc8.more (by omega), hk8'⟩
                    case measure => simp [intOf]
                  · go_wp2_with fail
                    refine (c_pick cg _ 2 _ hc8 (by omega) (by omega)).mono ?_
                    rintro e w9 ⟨x9, rfl, hx9, hc9, hk9⟩
                    have p9 := kblk hk9 p8 (by omega)
                    have hk99 := (hk8'.trans (hk9.mono fun _ e => .inl e)).trans ((keptOff_set w9 nb 0 (.int .i64 (-1 - (x9 : Int)))).mono fun _ e => .inr e)
                    have hc99 := hc9.off (keptOff_set w9 nb 0 (.int .i64 (-1 - (x9 : Int)))) fun j e => by omega
                    obtain ⟨⟨c0, c1⟩, f0, f1⟩ := blk2 p9
                    have hp99 : ∃ a1 c1, (w9.setCell ⟨nb, 0, none⟩ (.int .i64 (-1 - (x9 : Int)))).heap[nb]? = some (.cells #[.int .i64 a1, .int .i64 c1] 76 (0, 0)) := ⟨_, _, blk_set p9⟩
                    clear p8 hc8 hk8' hk9 hc9 p9
                    have hx92 : x9 < 2 := by omega
                    go_wp2
                    go_roundw
                    case rel =>
                      obtain ⟨a1, e1, p99⟩ := hp99
                      exact ⟨1, a1, e1, by omega, by go_num, p99, hc99.more (by omega), hk99⟩
                    case measure => simp [intOf]
              · skip
                go_wp2_with fail
                refine (c_l1MostN _ 1 _).mono ?_
                rintro e _ ⟨rfl, rfl⟩
                go_wp2_with fail
                refine (c_pick cg _ _ _ hcq (by omega) (by omega)).mono ?_
                rintro e wy ⟨y, rfl, hy, hcy, hky⟩
                have hy6 : y ≤ 6 := by omega
                have py := kblk hky pn (by omega)
                have hkw := (hkq.trans (hky.mono fun _ e => .inl e)).trans ((keptOff_set wy nb 1 (.int .i64 ((k : Int) + 1 + (y : Int)))).mono fun _ e => .inr e)
                have hcz := hcy.off (keptOff_set wy nb 1 (.int .i64 ((k : Int) + 1 + (y : Int)))) fun j e => by omega
                obtain ⟨⟨c0, c1⟩, f0, f1⟩ := blk2 py
                have hpz : ∃ a1 c1, (wy.setCell ⟨nb, 1, none⟩ (.int .i64 ((k : Int) + 1 + (y : Int)))).heap[nb]? = some (.cells #[.int .i64 a1, .int .i64 c1] 76 (0, 0)) ∧ (wy.setCell ⟨nb, 1, none⟩ (.int .i64 ((k : Int) + 1 + (y : Int)))).cell? ⟨nb, 1, none⟩ = some (.int .i64 ((k : Int) + 1 + (y : Int))) :=
                  ⟨_, _, blk_set py, by first | exact (blk2 (v1 := .int .i64 ((k : Int) + 1 + (y : Int))) (blk_set py)).1.1 | exact (blk2 (v2 := .int .i64 ((k : Int) + 1 + (y : Int))) (blk_set py)).1.2⟩
                clear hkq hky hcq hcy pn hy py
                go_upto_region 18 with fail
                obtain ⟨wz, hwz⟩ : ∃ z, z = wy.setCell ⟨nb, 1, none⟩ (.int .i64 ((k : Int) + 1 + (y : Int))) := ⟨_, rfl⟩
                rw [← hwz] at hpz hcz hkw
                rw [← hwz]
                clear hwz c0 c1 f0 f1
                obtain ⟨a1, e1, pz, lz⟩ := hpz
                obtain ⟨Z, hZ⟩ : ∃ Z : Int, Z = (k : Int) + 1 + (y : Int) := ⟨_, rfl⟩
                rw [← hZ] at lz
                replace hZ := Lib.hid hZ
                by_cases hge : Z ≥ (N : Int)
                · have hd5 : decide (Z ≥ (N : Int)) = true := by simp [hge]
                  go_wp2_with fail
                  clear lz
                  refine (c_pick cg _ 2 _ hcz (by omega) (by omega)).mono ?_
                  rintro e w9 ⟨x9, rfl, hx9, hc9, hk9⟩
                  have p9 := kblk hk9 pz (by omega)
                  have hk99 := (hkw.trans (hk9.mono fun _ e => .inl e)).trans ((keptOff_set w9 nb 1 (.int .i64 (-1 - (x9 : Int)))).mono fun _ e => .inr e)
                  have hc99 := hc9.off (keptOff_set w9 nb 1 (.int .i64 (-1 - (x9 : Int)))) fun j e => by omega
                  obtain ⟨⟨c0, c1⟩, f0, f1⟩ := blk2 p9
                  have hp99 : ∃ a1 c1, (w9.setCell ⟨nb, 1, none⟩ (.int .i64 (-1 - (x9 : Int)))).heap[nb]? = some (.cells #[.int .i64 a1, .int .i64 c1] 76 (0, 0)) := ⟨_, _, blk_set p9⟩
                  clear pz hcz hkw hk9 hc9 p9
                  have hx92 : x9 < 2 := by omega
                  go_wp2
                  go_roundw
                  case rel =>
                    obtain ⟨a1, e1, p99⟩ := hp99
                    exact ⟨2, a1, e1, by omega, by go_num, p99, hc99.more (by omega), hk99⟩
                  case measure => simp [intOf]
                · have hd5 : decide (Z ≥ (N : Int)) = false := by simp; omega
                  go_wp2_with fail
                  refine (c_one cg _ 3 _ hcz (by omega) (by omega)).mono ?_
                  rintro e w8 ⟨b, rfl, hc8, hk8⟩
                  have p8 := kblk hk8 pz (by omega)
                  have hk8' := hkw.trans (hk8.mono fun _ e => .inl e)
                  clear pz lz hcz hkw hk8
                  cases b
                  · go_wp2
                    go_roundw
                    case rel => exact ⟨2, _, _, by omega, by go_num, p8, hc8.more (by omega), hk8'⟩
                    case measure => simp [intOf]
                  · go_wp2_with fail
                    refine (c_pick cg _ 2 _ hc8 (by omega) (by omega)).mono ?_
                    rintro e w9 ⟨x9, rfl, hx9, hc9, hk9⟩
                    have p9 := kblk hk9 p8 (by omega)
                    have hk99 := (hk8'.trans (hk9.mono fun _ e => .inl e)).trans ((keptOff_set w9 nb 1 (.int .i64 (-1 - (x9 : Int)))).mono fun _ e => .inr e)
                    have hc99 := hc9.off (keptOff_set w9 nb 1 (.int .i64 (-1 - (x9 : Int)))) fun j e => by omega
                    obtain ⟨⟨c0, c1⟩, f0, f1⟩ := blk2 p9
                    have hp99 : ∃ a1 c1, (w9.setCell ⟨nb, 1, none⟩ (.int .i64 (-1 - (x9 : Int)))).heap[nb]? = some (.cells #[.int .i64 a1, .int .i64 c1] 76 (0, 0)) := ⟨_, _, blk_set p9⟩
                    clear p8 hc8 hk8' hk9 hc9 p9
                    have hx92 : x9 < 2 := by omega
                    go_wp2
                    go_roundw
                    case rel =>
                      obtain ⟨a1, e1, p99⟩ := hp99
                      exact ⟨2, a1, e1, by omega, by go_num, p99, hc99.more (by omega), hk99⟩
                    case measure => simp [intOf]
              · go_upto_region 20 with fail
                have hkoq : KeptOff (fun k => k = cg) wo wq := keptT hkn hkq (fun j h1 h2 => by omega)
                have hTq := hT.off hkoq (fun j e => by omega)
                have hOq : OwnI wq wo.heap.size (.slice ay ny ky) ys := OwnI.off hOn hkq (fun g e f => by have := hOb.out g e; omega)
                have hv1 : Hid (∀ g, v1.ownBlock = some g → gb + 1 ≤ g ∧ g < wo.heap.size) := Lib.hid fun g e => OwnS.lt hT.p g e
                have hv2 : Hid (∀ g, v2.ownBlock = some g → gb + 1 ≤ g ∧ g < wo.heap.size) := Lib.hid fun g e => (hT.s2 g e).2
                have hv3 : Hid (∀ g, v3.ownBlock = some g → gb + 1 ≤ g ∧ g < wo.heap.size) := Lib.hid fun g e => OwnD.lt hT.x g e
                have hkq0 := hkk.trans hkoq
                have hzq := hkoq.size
                have hnq : nb < wq.heap.size := (Array.getElem?_eq_some_iff.1 pn).1
                clear hT hkk hkn hkq hOn hkoq
                have hA4 := (Below.refl wq.heap.size wq).alloc (Nat.le_refl _) (.cells #[.int .i64 1] 3)
                have hT4 := hTq.below hA4
                have hO4 := OwnI.below hOq hA4
                have pn4 := blk_later hA4 pn
                have hc4 := hcq.below hA4
                have hk4 : KeptOff (fun k => k = cg) w0 (wq.alloc (.cells #[.int .i64 1] 3)) := keptT hkq0 (kept0 hA4) fun _ _ f => f.elim
                obtain ⟨⟨z0, z1, z2⟩, -⟩ := blk3 hTq.box
                clear hTq hOq pn hcq hkq0 hA4 z1 z2
                obtain ⟨hr1, hr2, hr3⟩ := hr
                have hl6 : (r.p ++ [(1 : Int)]).length = k + 1 := by simp [hr1]
                go_upto_region 21 with (at_builtin; refine wp_append_intH _ rfl _ _ rfl (gb + 1) v1 r.p rfl hT4.p 1 rfl (World.cell?_alloc_at _ _ _ _ rfl) (by omega) (by simp; omega) ?_; intro u1 w6 h61 h62 h63; obtain ⟨a6, k6, rfl, -⟩ := h61.ints.out; rw [hl6] at h61 h63; rw [hl6]; have hb6 := hT4.grown1 h62; obtain ⟨⟨y0, y1, y2⟩, g0, g1, g2⟩ := blk3 hb6; obtain ⟨hT6, hk6⟩ := hT4.addP 1 h61 h62 h63; replace hT6 := Lib.hid hT6; replace hk6 := Lib.hid hk6; have hne6 : Hid (∀ g, (Value.slice a6 (k + 1) k6).ownBlock = some g → g < wo.heap.size ∨ nb < g) := Lib.hid (fun g e => by (rcases h63 with h | h; (left; exact (hv1.out g (h ▸ e)).2); (right; rw [h] at e; injection e with e; simp at e; omega))); clear h61 h62 h63 hb6 y1 y2 g1 g2 z0)
                obtain ⟨w7, hw7⟩ : ∃ z, z = w6.setCell ⟨gb, 0, none⟩ (.slice a6 (k + 1) k6) := ⟨_, rfl⟩
                rw [← hw7] at hT6 hk6
                rw [← hw7]
                clear hw7 y0 g0
                have hzA : (wq.alloc (.cells #[.int .i64 1] 3)).heap.size = wq.heap.size + 1 := by simp
                have hO7 := OwnI.off hO4 hk6.out (fun g e f => by have := hOb.out g e; exact f.elim (fun f => by omega) (fun f => by have := hv1.out g f; omega))
                have pn7 := (hk6.out.block nb (by omega) (fun f => f.elim (fun f => by omega) (fun f => by have := hv1.out nb f; omega))).trans pn4
                have hc7 := hc4.off hk6.out (fun j f => f.elim (fun f => by omega) (fun f => by have := hv1.out j f; omega))
                have hk7 := keptT hk4 hk6.out (fun j h1 f => f.elim (fun f => by omega) (fun f => by have := hv1.out j f; omega))
                have hz7 := hk6.out.size
                rw [hzA] at hz7
                clear hT4 hO4 pn4 hc4 hk4 hk6 hzA hv1
                have hA8 := (Below.refl w7.heap.size w7).alloc (Nat.le_refl _) (.cells #[.slice ay ny ky] 31)
                have hT8 := hT6.out.below hA8
                have hO8 := OwnI.below hO7 hA8
                have pn8 := blk_later hA8 pn7
                have hc8 := hc7.below hA8
                have hk8 : KeptOff (fun k => k = cg) w0 (w7.alloc (.cells #[.slice ay ny ky] 31)) := keptT hk7 (kept0 hA8) fun _ _ f => f.elim
                obtain ⟨⟨-, z1, -⟩, -⟩ := blk3 hT6.out.box
                clear hT6 hO7 pn7 hc7 hk7 hA8
                have hl9 : (r.s ++ [ys]).length = k + 1 := by simp [hr2]
                have hRF : Hid (∀ g, (Value.slice ay ny ky).ownBlock = some g → ¬ ((Value.slice a6 (k + 1) k6).ownBlock ≠ some g ∧ v3.ownBlock ≠ some g ∧ g < wo.heap.size)) := Lib.hid fun g e f => by have := hOb.out g e; have := f.2.2; omega
                have hRW : Hid (∀ g, (Value.slice ay ny ky).ownBlock = some g → (Value.slice a6 (k + 1) k6).ownBlock ≠ some g ∧ v3.ownBlock ≠ some g ∧ g < w7.heap.size) := Lib.hid fun g e => ⟨fun f => by have := hOb.out g e; have := hne6.out g f; omega, fun f => by have := hOb.out g e; have := hv3.out g f; omega, by have := hOb.out g e; omega⟩
                go_upto_region 22 with (at_builtin; refine wp_append_rowG _ rfl _ _ rfl (gb + 1) _ v2 r.s rfl hT8.s (.slice ay ny ky) ys (hO8.mono (by omega)) hRF.out rfl (World.cell?_alloc_at _ _ _ _ rfl) (by omega) (by simp; omega) ?_; intro u2 w9 h91 h92 _; have hR9 := h91 (fun _ => True) (fun _ _ => trivial) (fun _ _ => trivial) (fun _ _ _ => trivial); obtain ⟨a9, k9, rfl, -⟩ := hR9.rows.out; rw [hl9] at h91; rw [hl9]; have hb9 := hT8.grown2 h92; obtain ⟨⟨y0, y1, y2⟩, g0, g1, g2⟩ := blk3 hb9; have hz9 := h92.size; obtain ⟨hT9, hk9⟩ := hT8.addS ys (fun g e => by have := hRW.out g e; simp at hz9; exact ⟨this.1, this.2.1, by omega⟩) h91 h92; replace hT9 := Lib.hid hT9; replace hk9 := Lib.hid hk9; replace hz9 := Lib.hid hz9; clear h91 h92 hR9 hb9 y0 y2 g0 g2 z1)
                obtain ⟨w10, hw10⟩ : ∃ z, z = w9.setCell ⟨gb, 1, none⟩ (.slice a9 (k + 1) k9) := ⟨_, rfl⟩
                rw [← hw10] at hT9 hk9
                rw [← hw10]
                clear hw10 y1 g1 hz9 hRF hRW
                have hzA : (w7.alloc (.cells #[.slice ay ny ky] 31)).heap.size = w7.heap.size + 1 := by simp
                have pn10 := (hk9.out.block nb (by omega) (fun f => f.elim (fun f => by omega) (fun f => by have := hv2.out nb f; omega))).trans pn8
                have hc10 := hc8.off hk9.out (fun j f => f.elim (fun f => by omega) (fun f => by have := hv2.out j f; omega))
                have hk10 := keptT hk8 hk9.out (fun j h1 f => f.elim (fun f => by omega) (fun f => by have := hv2.out j f; omega))
                have hz10 := hk9.out.size
                rw [hzA] at hz10
                clear hT8 hO8 pn8 hc8 hk8 hk9 hzA hv2 hne6 hOb
                have hA11 := (Below.refl w10.heap.size w10).alloc (Nat.le_refl _) (.cells #[.int .i64 a, .int .i64 c] 76)
                have hT11 := hT9.out.below hA11
                have hc11 := hc10.below hA11
                have hk11 : KeptOff (fun k => k = cg) w0 (w10.alloc (.cells #[.int .i64 a, .int .i64 c] 76)) := keptT hk10 (kept0 hA11) fun _ _ f => f.elim
                obtain ⟨⟨-, -, z2⟩, -⟩ := blk3 hT9.out.box
                obtain ⟨⟨n0, n1⟩, -⟩ := blk2 pn10
                clear hT9 pn10 hc10 hk10 hA11
                have hl12 : (r.x ++ [(a, c)]).length = k + 1 := by simp [hr3]
                go_wp2_with (at_builtin; refine wp_append_pairG _ rfl _ _ rfl (gb + 1) v3 r.x rfl hT11.x a c rfl (World.cell?_alloc_at _ _ _ _ rfl) (World.cell?_alloc_at _ _ _ _ rfl) (by omega) (by simp; omega) ?_; intro u3 w12 h121 h122 h123; obtain ⟨a12, k12, rfl, -⟩ := h121.pairs.out; rw [hl12] at h121 h123; rw [hl12]; have hb12 := hT11.grown3 h122; obtain ⟨⟨y0, y1, y2⟩, g0, g1, g2⟩ := blk3 hb12; obtain ⟨hT12, hk12⟩ := hT11.addX (a, c) h121 h122 h123; replace hT12 := Lib.hid hT12; replace hk12 := Lib.hid hk12; clear h121 h122 h123 hb12 y0 y1 g0 g1 z2)
                have hc13 := hc11.off hk12.out (fun j f => f.elim (fun f => by omega) (fun f => by have := hv3.out j f; omega))
                have hk13 := keptT hk11 hk12.out (fun j h1 f => f.elim (fun f => by omega) (fun f => by have := hv3.out j f; omega))
                go_roundw
                case rel => first | exact ⟨k + 1, ⟨r.p ++ [1], r.s ++ [ys], r.x ++ [(a, c)]⟩, by omega, by go_num, ⟨_, _, _, _, hT12.out⟩, ⟨hl6, hl9, hl12⟩, hc13.more (by omega), hk13⟩ | ((repeat apply Exists.intro); exact ⟨⟨k + 1, ⟨r.p ++ [1], r.s ++ [ys], r.x ++ [(a, c)]⟩, by omega, rfl, ⟨_, _, _, _, hT12.out⟩, ⟨hl6, hl9, hl12⟩, hc13.more (by omega), hk13⟩, rfl⟩)
                case measure => simp [intOf]; omega
    · obtain rfl : k = N := by omega
      have hd : decide ((k : Int) < (k : Int)) = false := by simp
      obtain ⟨hr1, hr2, hr3⟩ := hr
      replace hT := hT.relim
      obtain ⟨g1, k1, e, -⟩ := OwnI.form hT.p (by omega)
      rw [hr1] at e
      subst e
      obtain ⟨g2, k2, e, -⟩ := OwnR.form hT.s (by omega)
      rw [hr2] at e
      subst e
      obtain ⟨g3, k3, rfl⟩ : ∃ g c, v3 = .slice (some ⟨g, 0, none⟩) k c := by
        rcases OwnD.shape hT.x with ⟨-, h0, -⟩ | ⟨g, c, e, -⟩
        · omega
        · exact ⟨g, c, by rw [e, hr3]⟩
      go_wp2_with fail
      refine (c_pick cg _ 30 _ hc (by omega) (by omega)).mono ?_
      rintro e w1 ⟨q, rfl, -, hc1, hk1⟩
      replace hkk := hkk.trans hk1
      replace hT := hT.off hk1 (fun j e => by omega)
      clear hc hk1
      have hlt := hT.lt
      by_cases hq0 : q = 0
      · subst hq0
        obtain ⟨⟨z0, -, -⟩, -⟩ := blk3 hT.box
        go_upto_region 25 with fail
        refine wp_region_cur (by kernel_rfl) [none, none, none, none, none, none, none, none, none, none, none, none, none, none, none, none, none, none, none, none, none, none, none, none, none, none, none, none, none, none, none, none, none, none, none, none, none, none, none, none, none, none, none, none, none, none, none, none, none, none, none, none, none, none, none, none, none, none, none, none, none, none, none, none, none, none, none, none, none, none, none, none, none, none, none, none, none, none, none, none, none, none, none, none, none, none, none, none, none, none, none, none, none, none, none, none, some 0, some 1, some 2, some 3, some 4, some 5, some 6, some 7, some 8] 8 (by kernel_rfl) (by kernel_rfl) (by kernel_rfl) (by simp) _ rfl cg (K + 2 + 40 * k + 2) hc1 (by omega) [dkV cg (.pointer (some ⟨gb, 0, none⟩)), dkV cg (.slice (some ⟨g1, 0, none⟩) k k1), dkV cg (.pointer (some ⟨cg, 0, none⟩)), dkV cg (.int .i64 (k : Int)), dkN cg (fun x => 0 ≤ x ∧ x < (k : Int)), dkV cg (.pointer (some ⟨cg, 0, none⟩)), dkL cg (gb + 1) (by omega) (fun xs => xs = [2, -1, 0]), dkN cg (fun x => x ∈ ([2, -1, 0] : List Int))] ?_ ?_
        · intro i o ho hi u ww Kn hk hc hKn hd
          have y_z0 := kcell hk z0 (by omega)
          have hsz := hk.size
          rcases i with _ | _ | _ | _ | _ | _ | _ | _ | _ | _ | i
          all_goals try obtain rfl := Option.some.inj ho
          all_goals try simp only [putAll, fillL, List.getElem_toArray, List.getElem_cons_succ, List.getElem_cons_zero]
          · go_wp2
            exact ⟨_, rfl, KeptOff.refl _ _, hc.more (by omega), rfl⟩
          · have e0 : u 0 = .pointer (some ⟨gb, 0, none⟩) := hd 0 (by decide)
            rw [e0]
            go_wp2
            exact ⟨_, by simp only [putAll, fillL, e0] <;> rfl, KeptOff.refl _ _, hc.more (by omega), rfl⟩
          · go_wp2
            exact ⟨_, rfl, KeptOff.refl _ _, hc.more (by omega), rfl⟩
          · go_wp2
            exact ⟨_, rfl, KeptOff.refl _ _, hc.more (by omega), rfl⟩
          · have e2 : u 2 = .pointer (some ⟨cg, 0, none⟩) := hd 2 (by decide)
            rw [e2]
            have e3 : u 3 = .int .i64 (k : Int) := hd 3 (by decide)
            rw [e3]
            go_wp2_with fail
            refine (c_pick cg _ _ _ hc (by omega) (by omega)).mono ?_
            rintro e wn ⟨x, rfl, hx, hcn, hkn⟩
            go_wp2
            exact ⟨_, by simp only [putAll, fillL, e2, e3] <;> rfl, hkn, hcn, ⟨_, rfl, by omega, by omega⟩⟩
          · go_wp2
            exact ⟨_, rfl, KeptOff.refl _ _, hc.more (by omega), rfl⟩
          · go_wp2
            exact ⟨_, rfl, kalloc _, (hc.below ((Below.refl _ _).alloc (Nat.le_refl _) _)).more (by omega), ⟨[2, -1, 0], rfl, own_lit ww (gb + 1) [2, -1, 0] _ (by rfl) (by omega) (by simp)⟩⟩
          · have e5 : u 5 = .pointer (some ⟨cg, 0, none⟩) := hd 5 (by decide)
            rw [e5]
            obtain ⟨xs6, n6, o6⟩ : ∃ xs, _ ∧ OwnI ww (gb + 1) (u 6) xs := hd 6 (by decide)
            obtain ⟨p6, c6, e6, -⟩ := o6.ints.out
            try subst n6
            rw [e6] at o6
            try rw [e6]
            go_wp2_with fail
            refine (c_among cg _ _ ([2, -1, 0]) _ hc (by omega) o6.ints (by simp) (by simp) (by intro b off n c e; cases e; have := (OwnS.lt o6 b rfl).1; omega)).mono ?_
            rintro e wn ⟨x, rfl, hx, hcn, hkn⟩
            go_wp2
            exact ⟨_, by simp only [putAll, fillL, e5, e6] <;> rfl, hkn, hcn, ⟨_, rfl, hx⟩⟩
          · omega
          · omega
          · simp at ho
        · intro u ww hk hc2 hV
          have hsz := hk.size
          have y_z0 := kcell hk z0 (by omega)
          simp only [putAll, fillL]
          have e0 : u 0 = .pointer (some ⟨gb, 0, none⟩) := hV 0 (by decide)
          try rw [e0]
          have e1 : u 1 = .slice (some ⟨g1, 0, none⟩) k k1 := hV 1 (by decide)
          rw [e1]
          have e2 : u 2 = .pointer (some ⟨cg, 0, none⟩) := hV 2 (by decide)
          try rw [e2]
          have e3 : u 3 = .int .i64 (k : Int) := hV 3 (by decide)
          try rw [e3]
          obtain ⟨x4, e4, n4⟩ : ∃ x, u 4 = .int .i64 x ∧ _ := hV 4 (by decide)
          rw [e4]
          have e5 : u 5 = .pointer (some ⟨cg, 0, none⟩) := hV 5 (by decide)
          try rw [e5]
          obtain ⟨xs6, n6, o6⟩ : ∃ xs, _ ∧ OwnI ww (gb + 1) (u 6) xs := hV 6 (by decide)
          obtain ⟨p6, c6, e6, -⟩ := o6.ints.out
          try subst n6
          rw [e6] at o6
          try rw [e6]
          obtain ⟨x7, e7, n7⟩ : ∃ x, u 7 = .int .i64 x ∧ _ := hV 7 (by decide)
          rw [e7]
          clear hV
          try simp only [List.getElem_toArray, List.getElem_cons_succ, List.getElem_cons_zero]
          change wpList _ _ _ [_, _] _ _
          have hTw := hT.off hk (fun j e => by omega)
          obtain ⟨j, rfl⟩ := Int.eq_ofNat_of_zero_le n4.1
          obtain ⟨cj, fj⟩ := OwnI.cell hTw.p j (by omega)
          obtain ⟨hT3, hk3⟩ := hTw.setP j x7
          have hkz := keptT (hkk.trans hk) hk3 (fun j e1 e2 => by omega)
          have hcz := hc2.off hk3 (fun j e => by omega)
          go_upto_region 32 with fail
          obtain ⟨w9, hw9⟩ : ∃ z, z = ww.setCell ⟨g1, j, none⟩ (.int .i64 x7) := ⟨_, rfl⟩
          rw [← hw9] at hT3 hkz hcz
          rw [← hw9]
          clear hw9 hk3 cj fj hTw hk hc2 e0 e1 e2 e3 e4 e5 e6 e7 z0 y_z0 hkk hc1 hT
          obtain ⟨⟨z0, z1, z2⟩, -⟩ := blk3 hT3.box
          have pz := (hkz.block _ (by omega) (by omega)).trans p0
          obtain ⟨⟨c0, c1, c2⟩, f0, f1, f2⟩ := blk3 pz
          obtain ⟨⟨q0, q1, q2⟩, hk4⟩ := stored3 pz (.slice (some ⟨g1, 0, none⟩) k k1) (.slice (some ⟨g2, 0, none⟩) k k2) (.slice (some ⟨g3, 0, none⟩) k k3)
          replace q0 := Lib.hid q0
          replace q1 := Lib.hid q1
          replace q2 := Lib.hid q2
          have hfin := Lib.hid (And.intro ((hT3.tk.off hk4 fun k e => by omega).mono (lo' := w.heap.size) (by omega)) (And.intro (hcz.off hk4 fun j e => by omega) (keptT (hk00.trans hkz) hk4 fun k e1 e2 => by omega)))
          clear pz hk4
          go_wp2_with fail
          refine bodyPost_ret (v := .agg #[.slice (some ⟨g1, 0, none⟩) k k1, .slice (some ⟨g2, 0, none⟩) k k2, .slice (some ⟨g3, 0, none⟩) k k3]) (by simp [results, Try.results104, go_sem, q0.out, q1.out, q2.out]) rfl (by exact ⟨_, _, rfl, hfin.out.1, hfin.out.2.1.more (by omega), hfin.out.2.2⟩)
      have hq0' : ((q : Int) == 0) = false := by simp; omega
      by_cases hq1 : q = 1
      · subst hq1
        obtain ⟨⟨-, -, z2⟩, -⟩ := blk3 hT.box
        go_upto_region 27 with fail
        refine wp_region_cur (by kernel_rfl) [none, none, none, none, none, none, none, none, none, none, none, none, none, none, none, none, none, none, none, none, none, none, none, none, none, none, none, none, none, none, none, none, none, none, none, none, none, none, none, none, none, none, none, none, none, none, none, none, none, none, none, none, none, none, none, none, none, none, none, none, none, none, none, none, none, none, none, none, none, none, none, none, none, none, none, none, none, none, none, none, none, none, none, none, none, none, none, none, none, none, none, none, none, none, none, none, none, none, none, none, none, none, none, none, none, none, none, some 0, some 1, some 2, some 3, some 4, some 5, some 6, some 7, some 8, some 9, some 10] 10 (by kernel_rfl) (by kernel_rfl) (by kernel_rfl) (by simp) _ rfl cg (K + 2 + 40 * k + 2) hc1 (by omega) [dkV cg (.pointer (some ⟨gb, 2, none⟩)), dkV cg (.slice (some ⟨g3, 0, none⟩) k k3), dkV cg (.pointer (some ⟨cg, 0, none⟩)), dkV cg (.int .i64 (k : Int)), dkN cg (fun x => 0 ≤ x ∧ x < (k : Int)), dkV cg (.pointer (some ⟨cg, 0, none⟩)), dkV cg (.int .i64 (k : Int)), dkL cg (gb + 1) (by omega) (fun xs => xs = [-3, (k : Int), 0, -1]), dkN cg (fun x => x ∈ ([-3, (k : Int), 0, -1] : List Int)), dkQ cg] ?_ ?_
        · intro i o ho hi u ww Kn hk hc hKn hd
          have y_z2 := kcell hk z2 (by omega)
          have hsz := hk.size
          rcases i with _ | _ | _ | _ | _ | _ | _ | _ | _ | _ | _ | _ | i
          all_goals try obtain rfl := Option.some.inj ho
          all_goals try simp only [putAll, fillL, List.getElem_toArray, List.getElem_cons_succ, List.getElem_cons_zero]
          · go_wp2
            exact ⟨_, rfl, KeptOff.refl _ _, hc.more (by omega), rfl⟩
          · have e0 : u 0 = .pointer (some ⟨gb, 2, none⟩) := hd 0 (by decide)
            rw [e0]
            go_wp2
            exact ⟨_, by simp only [putAll, fillL, e0] <;> rfl, KeptOff.refl _ _, hc.more (by omega), rfl⟩
          · go_wp2
            exact ⟨_, rfl, KeptOff.refl _ _, hc.more (by omega), rfl⟩
          · go_wp2
            exact ⟨_, rfl, KeptOff.refl _ _, hc.more (by omega), rfl⟩
          · have e2 : u 2 = .pointer (some ⟨cg, 0, none⟩) := hd 2 (by decide)
            rw [e2]
            have e3 : u 3 = .int .i64 (k : Int) := hd 3 (by decide)
            rw [e3]
            go_wp2_with fail
            refine (c_pick cg _ _ _ hc (by omega) (by omega)).mono ?_
            rintro e wn ⟨x, rfl, hx, hcn, hkn⟩
            go_wp2
            exact ⟨_, by simp only [putAll, fillL, e2, e3] <;> rfl, hkn, hcn, ⟨_, rfl, by omega, by omega⟩⟩
          · go_wp2
            exact ⟨_, rfl, KeptOff.refl _ _, hc.more (by omega), rfl⟩
          · go_wp2
            exact ⟨_, rfl, KeptOff.refl _ _, hc.more (by omega), rfl⟩
          · have e6 : u 6 = .int .i64 (k : Int) := hd 6 (by decide)
            rw [e6]
            go_wp2
            exact ⟨_, by simp only [putAll, fillL, e6] <;> rfl, kalloc _, (hc.below ((Below.refl _ _).alloc (Nat.le_refl _) _)).more (by omega), ⟨[-3, (k : Int), 0, -1], rfl, own_lit ww (gb + 1) [-3, (k : Int), 0, -1] _ (by rfl) (by omega) (by simp)⟩⟩
          · have e5 : u 5 = .pointer (some ⟨cg, 0, none⟩) := hd 5 (by decide)
            rw [e5]
            obtain ⟨xs7, n7, o7⟩ : ∃ xs, _ ∧ OwnI ww (gb + 1) (u 7) xs := hd 7 (by decide)
            obtain ⟨p7, c7, e7, -⟩ := o7.ints.out
            try subst n7
            rw [e7] at o7
            try rw [e7]
            go_wp2_with fail
            refine (c_among cg _ _ ([-3, (k : Int), 0, -1]) _ hc (by omega) o7.ints (by simp) (by simp) (by intro b off n c e; cases e; have := (OwnS.lt o7 b rfl).1; omega)).mono ?_
            rintro e wn ⟨x, rfl, hx, hcn, hkn⟩
            go_wp2
            exact ⟨_, by simp only [putAll, fillL, e5, e7] <;> rfl, hkn, hcn, ⟨_, rfl, hx⟩⟩
          · obtain ⟨x8, e8, n8⟩ : ∃ x, u 8 = .int .i64 x ∧ _ := hd 8 (by decide)
            rw [e8]
            go_wp2
            exact ⟨_, by simp only [putAll, fillL, e8] <;> rfl, KeptOff.refl _ _, hc.more (by omega), ⟨_, rfl⟩⟩
          · omega
          · omega
          · simp at ho
        · intro u ww hk hc2 hV
          have hsz := hk.size
          have y_z2 := kcell hk z2 (by omega)
          simp only [putAll, fillL]
          have e0 : u 0 = .pointer (some ⟨gb, 2, none⟩) := hV 0 (by decide)
          try rw [e0]
          have e1 : u 1 = .slice (some ⟨g3, 0, none⟩) k k3 := hV 1 (by decide)
          rw [e1]
          have e2 : u 2 = .pointer (some ⟨cg, 0, none⟩) := hV 2 (by decide)
          try rw [e2]
          have e3 : u 3 = .int .i64 (k : Int) := hV 3 (by decide)
          try rw [e3]
          obtain ⟨x4, e4, n4⟩ : ∃ x, u 4 = .int .i64 x ∧ _ := hV 4 (by decide)
          rw [e4]
          have e5 : u 5 = .pointer (some ⟨cg, 0, none⟩) := hV 5 (by decide)
          try rw [e5]
          have e6 : u 6 = .int .i64 (k : Int) := hV 6 (by decide)
          try rw [e6]
          obtain ⟨xs7, n7, o7⟩ : ∃ xs, _ ∧ OwnI ww (gb + 1) (u 7) xs := hV 7 (by decide)
          obtain ⟨p7, c7, e7, -⟩ := o7.ints.out
          try subst n7
          rw [e7] at o7
          try rw [e7]
          obtain ⟨x8, e8, n8⟩ : ∃ x, u 8 = .int .i64 x ∧ _ := hV 8 (by decide)
          try rw [e8]
          obtain ⟨x9, e9⟩ : ∃ x, u 9 = .agg #[.int .i64 x, .int .i64 (-1)] := hV 9 (by decide)
          rw [e9]
          clear hV
          try simp only [List.getElem_toArray, List.getElem_cons_succ, List.getElem_cons_zero]
          change wpList _ _ _ [_, _] _ _
          have hTw := hT.off hk (fun j e => by omega)
          obtain ⟨j, rfl⟩ := Int.eq_ofNat_of_zero_le n4.1
          obtain ⟨⟨b0, cj, fj⟩, b1, cj2, fj2⟩ := hTw.cellX j (by omega)
          obtain ⟨hT3, hk3⟩ := hTw.setX j (by omega) x9 (-1)
          have hkz := keptT (hkk.trans hk) hk3 (fun j e1 e2 => by omega)
          have hcz := hc2.off hk3 (fun j e => by omega)
          go_upto_region 32 with fail
          obtain ⟨w9, hw9⟩ : ∃ z, z = (ww.setCell ⟨g3, j * 2, none⟩ (.int .i64 x9)).setCell ⟨g3, j * 2 + 1, none⟩ (.int .i64 (-1)) := ⟨_, rfl⟩
          rw [← hw9] at hT3 hkz hcz
          rw [← hw9]
          clear hw9 hk3 cj fj cj2 fj2 hTw hk hc2 e0 e1 e2 e3 e4 e5 e6 e7 e8 e9 z2 y_z2 hkk hc1 hT
          obtain ⟨⟨z0, z1, z2⟩, -⟩ := blk3 hT3.box
          have pz := (hkz.block _ (by omega) (by omega)).trans p0
          obtain ⟨⟨c0, c1, c2⟩, f0, f1, f2⟩ := blk3 pz
          obtain ⟨⟨q0, q1, q2⟩, hk4⟩ := stored3 pz (.slice (some ⟨g1, 0, none⟩) k k1) (.slice (some ⟨g2, 0, none⟩) k k2) (.slice (some ⟨g3, 0, none⟩) k k3)
          replace q0 := Lib.hid q0
          replace q1 := Lib.hid q1
          replace q2 := Lib.hid q2
          have hfin := Lib.hid (And.intro ((hT3.tk.off hk4 fun k e => by omega).mono (lo' := w.heap.size) (by omega)) (And.intro (hcz.off hk4 fun j e => by omega) (keptT (hk00.trans hkz) hk4 fun k e1 e2 => by omega)))
          clear pz hk4
          go_wp2_with fail
          refine bodyPost_ret (v := .agg #[.slice (some ⟨g1, 0, none⟩) k k1, .slice (some ⟨g2, 0, none⟩) k k2, .slice (some ⟨g3, 0, none⟩) k k3]) (by simp [results, Try.results104, go_sem, q0.out, q1.out, q2.out]) rfl (by exact ⟨_, _, rfl, hfin.out.1, hfin.out.2.1.more (by omega), hfin.out.2.2⟩)
      have hq1' : ((q : Int) == 1) = false := by simp; omega
      by_cases hq2 : q = 2
      · subst hq2
        obtain ⟨⟨-, z1, -⟩, -⟩ := blk3 hT.box
        have hg2l := (hT.s2 g2 rfl).2.2
        go_upto_region 29 with fail
        refine wp_region_cur (by kernel_rfl) [none, none, none, none, none, none, none, none, none, none, none, none, none, none, none, none, none, none, none, none, none, none, none, none, none, none, none, none, none, none, none, none, none, none, none, none, none, none, none, none, none, none, none, none, none, none, none, none, none, none, none, none, none, none, none, none, none, none, none, none, none, none, none, none, none, none, none, none, none, none, none, none, none, none, none, none, none, none, none, none, none, none, none, none, none, none, none, none, none, none, none, none, none, none, none, none, none, none, none, none, none, none, none, none, none, none, none, none, none, none, none, none, none, none, none, none, none, none, none, none, some 0, some 1, some 2, some 3, some 4, some 5, some 6] 6 (by kernel_rfl) (by kernel_rfl) (by kernel_rfl) (by simp) _ rfl cg (K + 2 + 40 * k + 2) hc1 (by omega) [dkV cg (.pointer (some ⟨gb, 1, none⟩)), dkV cg (.slice (some ⟨g2, 0, none⟩) k k2), dkV cg (.pointer (some ⟨cg, 0, none⟩)), dkV cg (.int .i64 (k : Int)), dkN cg (fun x => 0 ≤ x ∧ x < (k : Int)), dkL cg (w1.heap.size) (by omega) (fun xs => xs = [0, 1, 2])] ?_ ?_
        · intro i o ho hi u ww Kn hk hc hKn hd
          have y_z1 := kcell hk z1 (by omega)
          have hsz := hk.size
          rcases i with _ | _ | _ | _ | _ | _ | _ | _ | i
          all_goals try obtain rfl := Option.some.inj ho
          all_goals try simp only [putAll, fillL, List.getElem_toArray, List.getElem_cons_succ, List.getElem_cons_zero]
          · go_wp2
            exact ⟨_, rfl, KeptOff.refl _ _, hc.more (by omega), rfl⟩
          · have e0 : u 0 = .pointer (some ⟨gb, 1, none⟩) := hd 0 (by decide)
            rw [e0]
            go_wp2
            exact ⟨_, by simp only [putAll, fillL, e0] <;> rfl, KeptOff.refl _ _, hc.more (by omega), rfl⟩
          · go_wp2
            exact ⟨_, rfl, KeptOff.refl _ _, hc.more (by omega), rfl⟩
          · go_wp2
            exact ⟨_, rfl, KeptOff.refl _ _, hc.more (by omega), rfl⟩
          · have e2 : u 2 = .pointer (some ⟨cg, 0, none⟩) := hd 2 (by decide)
            rw [e2]
            have e3 : u 3 = .int .i64 (k : Int) := hd 3 (by decide)
            rw [e3]
            go_wp2_with fail
            refine (c_pick cg _ _ _ hc (by omega) (by omega)).mono ?_
            rintro e wn ⟨x, rfl, hx, hcn, hkn⟩
            go_wp2
            exact ⟨_, by simp only [putAll, fillL, e2, e3] <;> rfl, hkn, hcn, ⟨_, rfl, by omega, by omega⟩⟩
          · go_wp2
            exact ⟨_, rfl, kalloc _, (hc.below ((Below.refl _ _).alloc (Nat.le_refl _) _)).more (by omega), ⟨[0, 1, 2], rfl, own_lit ww (w1.heap.size) [0, 1, 2] _ (by rfl) (by omega) (by simp)⟩⟩
          · omega
          · omega
          · simp at ho
        · intro u ww hk hc2 hV
          have hsz := hk.size
          have y_z1 := kcell hk z1 (by omega)
          simp only [putAll, fillL]
          have e0 : u 0 = .pointer (some ⟨gb, 1, none⟩) := hV 0 (by decide)
          try rw [e0]
          have e1 : u 1 = .slice (some ⟨g2, 0, none⟩) k k2 := hV 1 (by decide)
          rw [e1]
          have e2 : u 2 = .pointer (some ⟨cg, 0, none⟩) := hV 2 (by decide)
          try rw [e2]
          have e3 : u 3 = .int .i64 (k : Int) := hV 3 (by decide)
          try rw [e3]
          obtain ⟨x4, e4, n4⟩ : ∃ x, u 4 = .int .i64 x ∧ _ := hV 4 (by decide)
          rw [e4]
          obtain ⟨xs5, n5, o5⟩ : ∃ xs, _ ∧ OwnI ww (w1.heap.size) (u 5) xs := hV 5 (by decide)
          obtain ⟨p5, c5, e5, -⟩ := o5.ints.out
          try subst n5
          rw [e5] at o5
          try rw [e5]
          clear hV
          try simp only [List.getElem_toArray, List.getElem_cons_succ, List.getElem_cons_zero]
          change wpList _ _ _ [_, _] _ _
          have hTw := hT.off hk (fun j e => by omega)
          obtain ⟨j, rfl⟩ := Int.eq_ofNat_of_zero_le n4.1
          obtain ⟨u0, cj, fj⟩ := OwnR.cellAt hTw.s j (by omega)
          obtain ⟨hT3, hk3⟩ := hTw.setS j (.slice p5 3 c5) [0, 1, 2] ⟨o5.ints, fun g e => by have := OwnS.lt o5 g e; omega⟩ (fun q e => by have := OwnS.lt o5 q e; omega)
          have hkz := keptT (hkk.trans hk) hk3 (fun j e1 e2 => by omega)
          have hcz := hc2.off hk3 (fun j e => by omega)
          go_upto_region 32 with fail
          obtain ⟨w9, hw9⟩ : ∃ z, z = ww.setCell ⟨g2, j, none⟩ (.slice p5 3 c5) := ⟨_, rfl⟩
          rw [← hw9] at hT3 hkz hcz
          rw [← hw9]
          clear hw9 hk3 cj fj hTw hk hc2 e0 e1 e2 e3 e4 e5 z1 y_z1 hkk hc1 hT o5
          obtain ⟨⟨z0, z1, z2⟩, -⟩ := blk3 hT3.box
          have pz := (hkz.block _ (by omega) (by omega)).trans p0
          obtain ⟨⟨c0, c1, c2⟩, f0, f1, f2⟩ := blk3 pz
          obtain ⟨⟨q0, q1, q2⟩, hk4⟩ := stored3 pz (.slice (some ⟨g1, 0, none⟩) k k1) (.slice (some ⟨g2, 0, none⟩) k k2) (.slice (some ⟨g3, 0, none⟩) k k3)
          replace q0 := Lib.hid q0
          replace q1 := Lib.hid q1
          replace q2 := Lib.hid q2
          have hfin := Lib.hid (And.intro ((hT3.tk.off hk4 fun k e => by omega).mono (lo' := w.heap.size) (by omega)) (And.intro (hcz.off hk4 fun j e => by omega) (keptT (hk00.trans hkz) hk4 fun k e1 e2 => by omega)))
          clear pz hk4
          go_wp2_with fail
          refine bodyPost_ret (v := .agg #[.slice (some ⟨g1, 0, none⟩) k k1, .slice (some ⟨g2, 0, none⟩) k k2, .slice (some ⟨g3, 0, none⟩) k k3]) (by simp [results, Try.results104, go_sem, q0.out, q1.out, q2.out]) rfl (by exact ⟨_, _, rfl, hfin.out.1, hfin.out.2.1.more (by omega), hfin.out.2.2⟩)
      have hq2' : ((q : Int) == 2) = false := by simp; omega
      by_cases hq3 : q = 3
      · subst hq3
        clear hT
        have pz := (hkk.block _ (by omega) (by omega)).trans p0
        obtain ⟨⟨c0, c1, c2⟩, f0, f1, f2⟩ := blk3 pz
        obtain ⟨⟨q0, q1, q2⟩, hk4⟩ := stored3 pz (.slice none 0 0) (.slice none 0 0) (.slice none 0 0)
        replace q0 := Lib.hid q0
        replace q1 := Lib.hid q1
        replace q2 := Lib.hid q2
        have hfin := Lib.hid (And.intro (hc1.off hk4 fun j e => by omega) (keptT (hk00.trans hkk) hk4 fun k e1 e2 => by omega))
        clear pz hk4
        go_wp2_with fail
        refine bodyPost_ret (v := .agg #[.slice none 0 0, .slice none 0 0, .slice none 0 0]) (by simp [results, Try.results104, go_sem, q0.out, q1.out, q2.out]) rfl (by exact ⟨_, _, rfl, talkB_nil _ _, hfin.out.1.more (by omega), hfin.out.2⟩)
      have hq3' : ((q : Int) == 3) = false := by simp; omega
      have hT3 := hT.rd
      clear hT
      obtain ⟨⟨z0, z1, z2⟩, -⟩ := blk3 hT3.box
      have pz := (hkk.block _ (by omega) (by omega)).trans p0
      obtain ⟨⟨c0, c1, c2⟩, f0, f1, f2⟩ := blk3 pz
      obtain ⟨⟨q0, q1, q2⟩, hk4⟩ := stored3 pz (.slice (some ⟨g1, 0, none⟩) k k1) (.slice (some ⟨g2, 0, none⟩) k k2) (.slice (some ⟨g3, 0, none⟩) k k3)
      replace q0 := Lib.hid q0
      replace q1 := Lib.hid q1
      replace q2 := Lib.hid q2
      have hfin := Lib.hid (And.intro ((hT3.tk.off hk4 fun k e => by omega).mono (lo' := w.heap.size) (by omega)) (And.intro (hc1.off hk4 fun j e => by omega) (keptT (hk00.trans hkk) hk4 fun k e1 e2 => by omega)))
      clear pz hk4
      go_wp2_with fail
      refine bodyPost_ret (v := .agg #[.slice (some ⟨g1, 0, none⟩) k k1, .slice (some ⟨g2, 0, none⟩) k k2, .slice (some ⟨g3, 0, none⟩) k k3]) (by simp [results, Try.results104, go_sem, q0.out, q1.out, q2.out]) rfl (by exact ⟨_, _, rfl, hfin.out.1, hfin.out.2.1.more (by omega), hfin.out.2.2⟩)
end Go.Proofs.Ytpieaeokbblflaa
