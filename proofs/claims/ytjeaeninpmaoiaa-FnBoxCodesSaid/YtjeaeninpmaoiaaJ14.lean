/- Boxes that the draws make of nothing: noise, and all plays; conditions: none. -/
import Derived.Test.YtjeaeninpmaoiaaJ13
import Derived.BigRegion
import Derived.BigQuiet
import Derived.Test.YtjeaeninpmaoiaaJ4
namespace Go.Proofs.Ytjeaeninpmaoiaa
open Go.RowKit

set_option maxRecDepth 100000 in
set_option maxHeartbeats 4000000 in
theorem c_l2Kept (v : Value) (r : BoxD) (lo : Nat) (w : World) (h : BoxO w lo v r) :
    Calls Try.prog 117 #[v] w fun e w' => ∃ v' r' b, e = .returned (.tuple #[v', .bool b]) ∧ BoxO w' lo v' r' ∧ (b = true → r' = r) ∧ Below w.heap.size w w' := by
  obtain ⟨a, c, rfl⟩ := h.form
  have hA := ((Below.refl w.heap.size w).alloc (Nat.le_refl _) (.cells #[.int .i64 r.x, .int .i64 r.y, .int .i64 r.w, .slice a r.r.length c] 50)).alloc (by simp) (.cells #[.int .i64 0, .int .i64 0, .int .i64 0, .slice none 0 0] 50)
  obtain ⟨w1, hw1⟩ : ∃ z, z = (w.alloc (.cells #[.int .i64 r.x, .int .i64 r.y, .int .i64 r.w, .slice a r.r.length c] 50)).alloc (.cells #[.int .i64 0, .int .i64 0, .int .i64 0, .slice none 0 0] 50) := ⟨_, rfl⟩
  have p1 : w1.heap[w.heap.size]? = some (.cells #[.int .i64 r.x, .int .i64 r.y, .int .i64 r.w, .slice a r.r.length c] 50 (0, 0)) := by rw [hw1, heap_alloc_old _ _ (by simp)]; exact heap_alloc_at rfl
  have p2 : w1.heap[w.heap.size + 1]? = some (.cells #[.int .i64 0, .int .i64 0, .int .i64 0, .slice none 0 0] 50 (0, 0)) := by rw [hw1]; exact heap_alloc_at (by simp)
  rw [← hw1] at hA
  go_enter Try.func117, Try.ntmps117
  go_upto_region 1 with fail
  rw [← hw1]
  clear hw1
  obtain ⟨⟨x0, x1, x2, x3⟩, -⟩ := blk4 p1
  go_wp2_with fail
  refine (c_l2Box _ r _ (h.rd.below hA)).mono ?_
  rintro e w2 ⟨rfl, hb⟩
  replace p1 := blk_later hb p1
  replace p2 := blk_later hb p2
  have hB1 := bstep hA hb
  replace h := h.below hB1
  clear x0 x1 x2 x3 hb hA
  have hz2 := (Array.getElem?_eq_some_iff.1 p2).1
  obtain ⟨⟨x0, x1, x2, x3⟩, -⟩ := blk4 p1
  obtain ⟨⟨c0, c1, c2, c3⟩, g0, g1, g2, g3⟩ := blk4 p2
  obtain ⟨n7, hn7⟩ : ∃ n, n = r.r.length := ⟨_, rfl⟩
  rw [← hn7] at h x3 ⊢
  replace hn7 := Lib.hid hn7
  cases hbb : boxB r
  · clear p1
    have hO2 : BoxO w2 lo (.agg #[.int .i64 0, .int .i64 0, .int .i64 0, .slice none 0 0]) ⟨0, 0, 0, []⟩ := ⟨_, rfl, rows0_nil _ _⟩
    obtain ⟨⟨⟨q0, q1⟩, q2, q3⟩, -, hk4⟩ := storedB p2 (.int .i64 0) (.int .i64 0) (.int .i64 0) (.slice none 0 0)
    replace q0 := Lib.hid q0
    replace q1 := Lib.hid q1
    replace q2 := Lib.hid q2
    replace q3 := Lib.hid q3
    have hfin := Lib.hid (And.intro (hO2.stored p2 (.int .i64 0) (.int .i64 0) (.int .i64 0) (.slice none 0 0)) (hB1.trans (hk4.below (B := w.heap.size) (fun k e => by omega) (by omega))))
    clear hk4 p2
    go_wp2
    refine bodyPost_ret (v := .tuple #[.agg #[.int .i64 0, .int .i64 0, .int .i64 0, .slice none 0 0], .bool false]) (by simp [results, Try.results117, go_sem, q0.out, q1.out, q2.out, q3.out]) rfl (by first | exact ⟨_, _, _, rfl, hfin.out.1, (by simp), hfin.out.2⟩ | exact ⟨_, _, ⟨rfl, rfl⟩, _, hfin.out.1, (by simp), hfin.out.2⟩ | exact ⟨_, ⟨rfl, _, ⟨rfl, hfin.out.1, (by simp), hfin.out.2⟩⟩⟩)
  · clear p1
    obtain ⟨⟨⟨q0, q1⟩, q2, q3⟩, -, hk4⟩ := storedB p2 (.int .i64 r.x) (.int .i64 r.y) (.int .i64 r.w) (.slice a n7 c)
    replace q0 := Lib.hid q0
    replace q1 := Lib.hid q1
    replace q2 := Lib.hid q2
    replace q3 := Lib.hid q3
    have hfin := Lib.hid (And.intro (h.stored p2 (.int .i64 r.x) (.int .i64 r.y) (.int .i64 r.w) (.slice a n7 c)) (hB1.trans (hk4.below (B := w.heap.size) (fun k e => by omega) (by omega))))
    clear hk4 p2
    go_wp2
    refine bodyPost_ret (v := .tuple #[.agg #[.int .i64 r.x, .int .i64 r.y, .int .i64 r.w, .slice a n7 c], .bool true]) (by simp [results, Try.results117, go_sem, q0.out, q1.out, q2.out, q3.out]) rfl (by first | exact ⟨_, _, _, rfl, hfin.out.1, (by simp), hfin.out.2⟩ | exact ⟨_, _, ⟨rfl, rfl⟩, _, hfin.out.1, (by simp), hfin.out.2⟩ | exact ⟨_, ⟨rfl, _, ⟨rfl, hfin.out.1, (by simp), hfin.out.2⟩⟩⟩)
set_option maxRecDepth 100000 in
set_option maxHeartbeats 4000000 in
theorem c_NoiseBox (X Y : Nat) (hXY : (1 ≤ X ∧ X ≤ 3) ∧ 1 ≤ Y ∧ Y ≤ 3) (w : World) :
    Calls Try.prog 104 #[.int .i64 X, .int .i64 Y, .int .i64 1] w fun e w' => ∃ v' r b, e = .returned (.tuple #[v', .bool b]) ∧ BoxO w' w.heap.size v' r ∧ (b = true → r.x = X ∧ r.y = Y ∧ Sh r (X * Y)) ∧ Below w.heap.size w w' := by
  obtain ⟨⟨h1, h2⟩, h3, h4⟩ := hXY
  have hsz : Hid (bsizeB (X : Int) (Y : Int) = true) := Lib.hid (by unfold bsizeB inB; simp; omega)
  have hN : X * Y ≤ 9 := Nat.mul_le_mul h2 h4
  obtain ⟨N, hNe⟩ : ∃ N, N = X * Y := ⟨_, rfl⟩
  have hm : (X : Int) * (Y : Int) = (N : Int) := by rw [hNe]; simp
  rw [← hNe] at hN ⊢
  clear hNe
  have hA0 := (Below.refl w.heap.size w).alloc (Nat.le_refl _) (.cells #[.int .i64 0, .int .i64 0, .int .i64 0, .slice none 0 0] 50)
  obtain ⟨w0, hw0⟩ : ∃ z, z = w.alloc (.cells #[.int .i64 0, .int .i64 0, .int .i64 0, .slice none 0 0] 50) := ⟨_, rfl⟩
  have hz0 : w0.heap.size = w.heap.size + 1 := by rw [hw0]; simp
  have p0 : w0.heap[w.heap.size]? = some (.cells #[.int .i64 0, .int .i64 0, .int .i64 0, .slice none 0 0] 50 (0, 0)) := by rw [hw0]; exact heap_alloc_at rfl
  rw [← hw0] at hA0
  go_enter Try.func104, Try.ntmps104
  go_wp2_with fail
  refine (c_l2Sizes X Y _).mono ?_
  rintro e _ ⟨rfl, rfl⟩
  rw [hsz.out]
  go_wp2_with fail
  refine (c_l1In 1 1 1000 _).mono ?_
  rintro e _ ⟨rfl, rfl⟩
  rw [show inB 1 1000 1 = true from by decide]
  have hAe := (Below.refl w0.heap.size w0).alloc (Nat.le_refl _) (.cells #[] 26)
  obtain ⟨hX, hAb⟩ := boxX_new (x := (X : Int)) (y := (Y : Int)) (n := (4 : Int)) (rows0_empty w0) (by simp)
  have hkr : KeptOff (fun k => w0.heap.size ≤ k) w0 _ := (keptOfB (hAe.trans (hAb.mono (by simp))) (by simp; omega))
  simp only [World.size_alloc] at hX
  rw [hz0] at hX hkr
  go_upto_region 4 with fail
  rw [← hw0]
  obtain ⟨lo, hlo⟩ : ∃ z, z = w.heap.size + 1 := ⟨_, rfl⟩
  obtain ⟨bb, hbb⟩ : ∃ z, z = lo + 1 := ⟨_, rfl⟩
  rw [← hlo, ← hbb] at hX ⊢
  rw [← hlo] at hkr
  obtain ⟨w3, hw3⟩ : ∃ z, z = (w0.alloc (.cells #[] 26)).alloc (.cells #[.int .i64 (X : Int), .int .i64 (Y : Int), .int .i64 (4 : Int), .slice (some ⟨lo, 0, none⟩) 0 0] 50) := ⟨_, rfl⟩
  rw [← hw3] at hX hkr ⊢
  have hq1 : w.heap.size < lo ∧ lo ≤ w0.heap.size ∧ w0.heap.size ≤ lo ∧ lo < bb := by omega
  clear hw3 hw0 hAe hAb hlo hbb hz0
  go_wp2_with fail
  go_loopw [9] (fun i wr => ∃ (k : Nat) (rs : List (List Int)) (rv : Value), k ≤ N ∧ i = .int .i64 k ∧ BoxX wr lo bb rv ⟨X, Y, 4, rs⟩ ∧ Sh ⟨X, Y, 4, rs⟩ k ∧ KeptOff (fun q => lo ≤ q) w0 wr) (fun i _ => N - (intOf i).toNat)
  case atStart => exact ⟨0, [], _, Nat.zero_le _, rfl, hX, sh_nil _ _ _, hkr⟩
  case round =>
    clear hX hkr
    obtain ⟨k, rs, rv, hk, rfl, hX, hsh, hkr⟩ := hrel
    have hlw := hX.lt
    have hll := hX.low
    have hzr := hkr.size
    have hlen : rs.length < 1099511627776 := by have := hsh.1; simp at this; omega
    by_cases hkN : k < N
    · have hd : decide ((k : Int) < (N : Int)) = true := by simp; omega
      obtain ⟨wo, rfl⟩ : ∃ wo : World, wo = wr := ⟨_, rfl⟩
      have ho7 := own_lit wo wo.heap.size [1, 1, 1, 1] #[.int .i64 1, .int .i64 1, .int .i64 1, .int .i64 1] rfl (Nat.le_refl _) (by simp)
      have hA7 := (Below.refl wo.heap.size wo).alloc (Nat.le_refl _) (.cells #[.int .i64 1, .int .i64 1, .int .i64 1, .int .i64 1] 3)
      have hXA := hX.below hA7
      have hRA := OwnR.below hX.row hA7
      have hkA := hkr.trans ((kept0 hA7).mono fun _ f => f.elim)
      have hza := hA7.size
      obtain ⟨⟨z0, z1, z2, z3⟩, -⟩ := blk4 hX.box
      clear hX hkr z0 z1 z2
      have hdis : ∀ g, (Value.slice (some ⟨wo.heap.size, 0, none⟩) 4 4).ownBlock = some g → ¬ (lo ≤ g ∧ g < wo.heap.size) := fun g e f => by have := OwnS.lt ho7 g e; omega
      have hbA := hXA.box
      obtain ⟨⟨y0, y1, y2, y3⟩, g0, g1, g2, g3⟩ := blk4 hbA
      clear y0 y1 y2 g0 g1 g2 g3
      go_wp2_with (at_builtin; refine wp_append_row _ (.slice (some ⟨wo.heap.size, 0, none⟩) 4 4) rfl _ _ rfl lo _ _ _ rfl hRA [1, 1, 1, 1] (ho7.mono (by omega)) hdis rfl (by first | rfl | simp) hlen (by omega) ?_; intro v5 w5 hn5 hg5 hB5 _; obtain ⟨a5, k5, rfl, -⟩ := (OwnR.rows hn5).out; simp only [List.length_append, List.length_singleton] at hn5; have hb5 := hXA.grown hg5; have hr5 := Lib.hid (hXA.r [1, 1, 1, 1] hn5 hg5); obtain ⟨⟨x0, x1, x2, x3⟩, f0, f1, f2, f3⟩ := blk4 hb5; clear x0 x1 x2 f0 f1 f2)
      go_roundw
      case rel => exact ⟨k + 1, rs ++ [[1, 1, 1, 1]], _, by omega, by go_num, hr5.out.1, sh_snoc hsh rfl, hkA.trans hr5.out.2⟩
      case measure => simp [intOf]; omega
    · obtain rfl : k = N := by omega
      have hd : decide ((k : Int) < (k : Int)) = false := by simp
      obtain ⟨a7, c7, rfl, -⟩ := (OwnR.rows hX.row).out
      obtain ⟨⟨b0, b1, b2, b3⟩, -⟩ := blk4 (show wr.heap[bb]? = some (.cells #[.int .i64 X, .int .i64 Y, .int .i64 4, .slice a7 rs.length c7] 50 (0, 0)) from hX.box)
      have hO : BoxO wr lo (.agg #[.int .i64 X, .int .i64 Y, .int .i64 4, .slice a7 rs.length c7]) ⟨X, Y, 4, rs⟩ := hX.o
      have pz := (hkr.block w.heap.size (by omega) (by omega)).trans p0
      have hwz := (Array.getElem?_eq_some_iff.1 pz).1
      go_wp2_with fail
      refine (c_l2Kept _ _ lo _ hO).mono ?_
      rintro e w6 ⟨v', r', b, rfl, hO6, hb6, hB6⟩
      have hb7 : Hid (b = true → r'.x = X ∧ r'.y = Y ∧ Sh r' k) := Lib.hid fun e => by have := hb6 e; subst this; exact ⟨rfl, rfl, hsh⟩
      replace pz := blk_later hB6 pz
      have hz6 := hB6.size
      have hall := hA0.trans (hkr.below (B := w.heap.size) (fun k e => by omega) (by omega))
      replace hall := bstep hall hB6
      clear hb6 hO hX hkr b0 b1 b2 b3
      obtain ⟨a8, c8, rfl⟩ := hO6.form
      obtain ⟨rx, hrx⟩ : ∃ n, n = r'.x := ⟨_, rfl⟩
      obtain ⟨ry, hry⟩ : ∃ n, n = r'.y := ⟨_, rfl⟩
      obtain ⟨rw', hrw⟩ : ∃ n, n = r'.w := ⟨_, rfl⟩
      obtain ⟨n8, hn8⟩ : ∃ n, n = r'.r.length := ⟨_, rfl⟩
      rw [← hrx, ← hry, ← hrw, ← hn8] at hO6 ⊢
      clear hrx hry hrw hn8
      obtain ⟨⟨c0, c1, c2, c3⟩, g0, g1, g2, g3⟩ := blk4 pz
      obtain ⟨⟨⟨q0, q1⟩, q2, q3⟩, -, hk4⟩ := storedB pz (.int .i64 rx) (.int .i64 ry) (.int .i64 rw') (.slice a8 n8 c8)
      replace q0 := Lib.hid q0
      replace q1 := Lib.hid q1
      replace q2 := Lib.hid q2
      replace q3 := Lib.hid q3
      have hfin := Lib.hid (And.intro ((hO6.stored pz (.int .i64 rx) (.int .i64 ry) (.int .i64 rw') (.slice a8 n8 c8)).mono (show w.heap.size ≤ lo by omega)) (hall.trans (hk4.below (B := w.heap.size) (fun k e => by omega) (by omega))))
      clear hk4 pz hO6
      go_wp2
      refine bodyPost_ret (v := .tuple #[.agg #[.int .i64 rx, .int .i64 ry, .int .i64 rw', .slice a8 n8 c8], .bool b]) (by simp [results, Try.results104, go_sem, q0.out, q1.out, q2.out, q3.out]) rfl (by first | exact ⟨_, _, _, rfl, hfin.out.1, hb7.out, hfin.out.2⟩ | exact ⟨_, _, ⟨rfl, rfl⟩, _, hfin.out.1, hb7.out, hfin.out.2⟩ | exact ⟨_, ⟨rfl, _, ⟨rfl, hfin.out.1, hb7.out, hfin.out.2⟩⟩⟩ | exact ⟨_, _, _, ⟨rfl, rfl⟩, hfin.out.1, hb7.out, hfin.out.2⟩)
end Go.Proofs.Ytjeaeninpmaoiaa
/- All plays, and the box of a play: the reference's side; conditions: none. -/
namespace Go.Proofs.Ytjeaeninpmaoiaa
open Go.RowKit

/-- the play with a place in the order -/
def plyB (n code : Nat) : List Int := mapR (fun i => bitAt (n - 1 - i) code) n
theorem plyB_01 (n code : Nat) : (plyB n code).length = n ∧ ∀ x ∈ plyB n code, x = 0 ∨ x = 1 := by
  refine ⟨mapR_len _ _, fun x hx => ?_⟩
  obtain ⟨i, hi, rfl⟩ := List.getElem_of_mem hx
  unfold plyB at hi ⊢
  rw [mapR_get]
  exact bitAt_01 _ _
theorem shl_oneB (n : Nat) (h : n ≤ 6) : IntKind.i64.wrap ((2 : Int) ^ n) = ((2 ^ n : Nat) : Int) ∧ 2 ^ n ≤ 64 ∧ 1 ≤ 2 ^ n := by
  have : ∀ n : Nat, n < 7 → (IntKind.i64.wrap ((2 : Int) ^ n) = ((2 ^ n : Nat) : Int) ∧ 2 ^ n ≤ 64 ∧ 1 ≤ 2 ^ n) := by decide +kernel
  exact this n (by omega)
set_option maxRecDepth 100000 in
set_option maxHeartbeats 4000000 in
theorem c_l2Plays (X Y : Nat) (hX : X ≤ 3) (hY : Y ≤ 3) (w : World) :
    Calls Try.prog 99 #[.int .i64 X, .int .i64 Y] w fun e w' => ∃ v', e = .returned v' ∧ OwnR w' w.heap.size (fun k => w.heap.size ≤ k ∧ k < w'.heap.size) v' (mapR (plyB (X + Y)) (2 ^ (X + Y))) ∧ Below w.heap.size w w' := by
  obtain ⟨eN, hN1, hN2⟩ := shl_oneB (X + Y) (by omega)
  obtain ⟨M, hM⟩ : ∃ z, z = 2 ^ (X + Y) := ⟨_, rfl⟩
  rw [← hM] at eN hN1 hN2 ⊢
  obtain ⟨n, hn⟩ : ∃ z, z = X + Y := ⟨_, rfl⟩
  have hn6 : n ≤ 6 := by omega
  have hcast : (X : Int) + (Y : Int) = (n : Int) := by omega
  rw [← hn] at eN ⊢
  replace hn := Lib.hid hn
  replace hM := Lib.hid hM
  go_enter Try.func99, Try.ntmps99
  go_wp2_with fail
  go_loopw [5, 6] (fun v i wr => ∃ k : Nat, k ≤ M ∧ i = .int .i64 k ∧ OwnR wr w.heap.size (fun b => w.heap.size ≤ b ∧ b < wr.heap.size) v (mapR (plyB n) k) ∧ Below w.heap.size w wr) (fun _ i _ => M - (intOf i).toNat)
  case atStart => exact ⟨0, Nat.zero_le _, rfl, ownR_empty w w.heap.size (Nat.le_refl _), (Below.refl _ _).alloc (by omega) _⟩
  case round =>
    obtain ⟨k, hk, rfl, hown, hB⟩ := hrel
    have hsz := hB.size
    by_cases hlt : k < M
    · obtain ⟨wo, rfl⟩ : ∃ wo : World, wo = wr := ⟨_, rfl⟩
      go_wp2_with fail
      go_loopw [7, 8] (fun v i wr => ∃ j : Nat, j ≤ n ∧ i = .int .i64 j ∧ OwnI wr wo.heap.size v (mapR (fun i => bitAt (n - 1 - i) k) j) ∧ Below wo.heap.size wo wr) (fun _ i _ => n - (intOf i).toNat)
      case atStart => exact ⟨0, by omega, rfl, own_empty _ _ (Nat.le_refl _), (Below.refl _ _).alloc (Nat.le_refl _) _⟩
      case round =>
        obtain ⟨j, hj, rfl, hrowo, hBo⟩ := hrel
        have hszo := hBo.size
        by_cases hltj : j < n
        · have hE := Lib.hid (and1_div k (n - 1 - j) (by omega))
          go_wp2_with (at_builtin; refine wp_append_int _ _ rfl _ _ rfl wo.heap.size _ _ rfl hrowo rfl (by first | rfl | simp) (by rw [mapR_len]; omega) hszo ?_; intro v' w3 hown2 _ hB3 _)
          rw [hE.out, ← mapR_succ (fun i => bitAt (n - 1 - i) k)] at hown2
          have hB4 := hBo.trans hB3
          go_roundw
          case rel => exact ⟨j + 1, by omega, by go_num, hown2, hB4⟩
          case measure => simp [intOf]; omega
        · obtain rfl : j = n := by omega
          have hown := hown.below hBo
          obtain ⟨a6, c6, e6, -, -⟩ := hrowo.ints.out
          rw [mapR_len] at e6
          subst e6
          go_wp2_with (at_builtin; refine wp_append_row _ _ rfl _ _ rfl w.heap.size _ _ _ rfl hown (plyB j k) (hrowo.mono (by omega)) (fun g hg hf => by have a := OwnS.lt hrowo g hg; have b := hf.2; omega) rfl (by first | rfl | simp) (by rw [mapR_len]; omega) (by omega) ?_; intro v' w3 hown2 _ hB2 _)
          rw [← mapR_succ (plyB j)] at hown2
          have hB3 := hB.trans (hBo.mono (by omega))
          have hB4 := hB3.trans hB2
          go_roundw
          case rel => exact ⟨k + 1, by omega, by go_num, hown2, hB4⟩
          case measure => simp [intOf]; omega
    · obtain rfl : k = M := by omega
      go_wp2
      go_ret
      exact ⟨_, rfl, hown.mono (by omega) (fun b hb => ⟨by omega, hb.2⟩), hB⟩
set_option maxRecDepth 100000 in
set_option maxHeartbeats 8000000 in
theorem c_l2PlayBox (X Y : Nat) (pv : Value) (pl : List Int) (n : Int) (hX : X ≤ 3) (hY : Y ≤ 3) (w : World) (h : Ints w pv pl) (hl : pl.length = X + Y) (h01 : ∀ x ∈ pl, x = 0 ∨ x = 1) :
    Calls Try.prog 100 #[.int .i64 X, .int .i64 Y, pv, .int .i64 n] w fun e w' => ∃ v' r, e = .returned v' ∧ BoxO w' w.heap.size v' r ∧ (r.x = X ∧ r.y = Y ∧ Sh r (X * Y)) ∧ Below w.heap.size w w' := by
  obtain ⟨ad, cap, rfl, hcap, -⟩ := h.out
  have hbit : Hid (∀ i (hi : i < pl.length), ∃ b : Nat, b ≤ 1 ∧ pl[i] = (b : Int)) := Lib.hid fun i hi => by
    rcases h01 _ (List.getElem_mem hi) with e | e
    · exact ⟨0, by omega, e⟩
    · exact ⟨1, by omega, e⟩
  replace h01 := Lib.hid h01
  have hN : X * Y ≤ 9 := Nat.mul_le_mul hX hY
  replace hN := Lib.hid hN
  have hlen0 : ∀ (i k : Nat), i < X → k ≤ Y → i * Y + k ≤ 9 := fun i k h1 h2 => by
    have h3 : i * Y + k ≤ (i + 1) * Y := by rw [Nat.add_mul]; omega
    have h4 : (i + 1) * Y ≤ X * Y := Nat.mul_le_mul_right _ h1
    have := hN.out; omega
  replace hlen0 := Lib.hid hlen0
  obtain ⟨L, hL⟩ : ∃ z, z = pl.length := ⟨_, rfl⟩
  have hLX : X + Y = L := by omega
  rw [← hL] at h ⊢
  replace hL := Lib.hid hL
  have hA0 := (Below.refl w.heap.size w).alloc (Nat.le_refl _) (.cells #[.int .i64 0, .int .i64 0, .int .i64 0, .slice none 0 0] 50)
  obtain ⟨w0, hw0⟩ : ∃ z, z = w.alloc (.cells #[.int .i64 0, .int .i64 0, .int .i64 0, .slice none 0 0] 50) := ⟨_, rfl⟩
  have hz0 : w0.heap.size = w.heap.size + 1 := by rw [hw0]; simp
  have p0 : w0.heap[w.heap.size]? = some (.cells #[.int .i64 0, .int .i64 0, .int .i64 0, .slice none 0 0] 50 (0, 0)) := by rw [hw0]; exact heap_alloc_at rfl
  rw [← hw0] at hA0
  go_enter Try.func100, Try.ntmps100
  have hAe := (Below.refl w0.heap.size w0).alloc (Nat.le_refl _) (.cells #[] 26)
  obtain ⟨hX, hAb⟩ := boxX_new (x := (X : Int)) (y := (Y : Int)) (n := n) (rows0_empty w0) (by simp)
  have hkr : KeptOff (fun k => w0.heap.size ≤ k) w0 _ := (keptOfB (hAe.trans (hAb.mono (by simp))) (by simp; omega))
  simp only [World.size_alloc] at hX
  rw [hz0] at hX hkr
  go_upto_region 2 with fail
  rw [← hw0]
  obtain ⟨lo, hlo⟩ : ∃ z, z = w.heap.size + 1 := ⟨_, rfl⟩
  obtain ⟨bb, hbb⟩ : ∃ z, z = lo + 1 := ⟨_, rfl⟩
  rw [← hlo, ← hbb] at hX ⊢
  rw [← hlo] at hkr
  obtain ⟨w3, hw3⟩ : ∃ z, z = (w0.alloc (.cells #[] 26)).alloc (.cells #[.int .i64 (X : Int), .int .i64 (Y : Int), .int .i64 n, .slice (some ⟨lo, 0, none⟩) 0 0] 50) := ⟨_, rfl⟩
  rw [← hw3] at hX hkr ⊢
  have hq1 : w.heap.size < lo ∧ lo ≤ w0.heap.size ∧ w0.heap.size ≤ lo ∧ lo < bb := by omega
  clear hw3 hw0 hAe hAb hlo hbb hz0
  have hpl := h.below hA0
  have hk3 := hkr
  go_wp2_with fail
  go_loopw [10] (fun i wr => ∃ (j : Nat) (rs : List (List Int)) (rv : Value), j ≤ X ∧ i = .int .i64 j ∧ BoxX wr lo bb rv ⟨X, Y, n, rs⟩ ∧ Hid (Sh ⟨X, Y, n, rs⟩ (j * Y)) ∧ KeptOff (fun q => lo ≤ q) w0 wr) (fun i _ => X - (intOf i).toNat)
  case atStart => exact ⟨0, [], _, Nat.zero_le _, rfl, hX, Lib.hid (by rw [Nat.zero_mul]; exact sh_nil _ _ _), hkr⟩
  case round =>
    clear hX hkr hk3
    obtain ⟨j, rs, rv, hj, rfl, hX, hsh, hkr⟩ := hrel
    by_cases hjX : j < X
    · have hd : decide ((j : Int) < (X : Int)) = true := by simp; omega
      go_wp2_with fail
      go_loopw [11] (fun i wr => ∃ (k : Nat) (rs : List (List Int)) (rv : Value), k ≤ Y ∧ i = .int .i64 k ∧ BoxX wr lo bb rv ⟨X, Y, n, rs⟩ ∧ Hid (Sh ⟨X, Y, n, rs⟩ (j * Y + k)) ∧ KeptOff (fun q => lo ≤ q) w0 wr) (fun i _ => Y - (intOf i).toNat)
      case atStart => exact ⟨0, rs, rv, Nat.zero_le _, rfl, hX, hsh, hkr⟩
      case round =>
        clear hX hkr hsh
        obtain ⟨k, rs, rv, hk, rfl, hX, hsh, hkr⟩ := hrel
        have hlw := hX.lt
        have hll := hX.low
        have hzr := hkr.size
        have hlen : rs.length < 1099511627776 := by have := hsh.out.1; have := hlen0.out j k hjX hk; simp at *; omega
        by_cases hkY : k < Y
        · have hd2 : decide ((k : Int) < (Y : Int)) = true := by simp; omega
          obtain ⟨wo, rfl⟩ : ∃ wo : World, wo = wr := ⟨_, rfl⟩
          have hplo : Ints wo (.slice ad L cap) pl := hpl.below (hkr.below (B := w0.heap.size) (fun g e => by omega) (Nat.le_refl _))
          obtain ⟨pa, ha1, hae⟩ := hbit.out j (by have := hL.out; omega)
          obtain ⟨pb, hb1, hbe⟩ := hbit.out (X + k) (by have := hL.out; omega)
          obtain ⟨bp, op, rfl, hbp, cpa⟩ := hplo.at j (by have := hL.out; omega)
          obtain ⟨bp2, op2, e2, -, cpb⟩ := hplo.at (X + k) (by have := hL.out; omega)
          simp only [Option.some.injEq, Addr.mk.injEq, and_true] at e2
          obtain ⟨rfl, rfl⟩ := e2
          rw [hae] at cpa
          rw [hbe] at cpb
          clear hae hbe hplo
          go_upto_region 9 with (at_make; refine wp_make_int _ rfl _ _ rfl 4 rfl rfl (by omega) ?_; intro w5 h51 h52 h53)
          obtain ⟨cq, fq⟩ := OwnI.cell h51 (2 * pa + pb) (by simp; omega)
          obtain ⟨hs1, hs2⟩ := OwnI.set h51 (2 * pa + pb) n
          have cpa5 := ((bcell h52).1 _ _ hbp).trans cpa
          have cpb5 := ((bcell h52).1 _ _ hbp).trans cpb
          have hA6 := h52.grown hs2 (by omega) (fun g e => by injection e with e; omega)
          obtain ⟨ys, hys⟩ : ∃ z, z = (List.replicate 4 (0 : Int)).set (2 * pa + pb) n := ⟨_, rfl⟩
          have hyl : ys.length = 4 := by rw [hys]; simp
          rw [← hys] at hs1
          clear hys cpa cpb h51 hs2
          go_wp2_with fail
          go_region
          obtain ⟨wa, hwa⟩ : ∃ z, z = (w5.setCell ⟨wo.heap.size, 2 * pa + pb, none⟩ (.int .i64 n)).drew := ⟨_, rfl⟩
          have ho7 : OwnI wa wo.heap.size (.slice (some ⟨wo.heap.size, 0, none⟩) 4 4) ys := by rw [hwa]; exact OwnI.below hs1 (Below.refl _ _).drew
          have hA7 : Below wo.heap.size wo wa := by rw [hwa]; exact hA6.drew
          rw [← hwa]
          clear hwa cq fq cpa5 cpb5 hs1 hA6 h52 h53
          have hXA := hX.below hA7
          have hRA := OwnR.below hX.row hA7
          have hkA := hkr.trans ((kept0 hA7).mono fun _ f => f.elim)
          have hza := hA7.size
          clear hX hkr
          have hdis : ∀ g, (Value.slice (some ⟨wo.heap.size, 0, none⟩) 4 4).ownBlock = some g → ¬ (lo ≤ g ∧ g < wo.heap.size) := fun g e f => by have := OwnS.lt ho7 g e; omega
          go_upto_region 10 with fail
          have hbA := hXA.box
          obtain ⟨⟨y0, y1, y2, y3⟩, g0, g1, g2, g3⟩ := blk4 hbA
          clear y0 y1 y2 g0 g1 g2 g3
          go_wp2_with (at_builtin; refine wp_append_row _ (.slice (some ⟨wo.heap.size, 0, none⟩) 4 4) rfl _ _ rfl lo _ _ _ rfl hRA ys (ho7.mono (by omega)) hdis rfl (by first | rfl | simp) hlen (by omega) ?_; intro v5 w5 hn5 hg5 hB5 _; obtain ⟨a5, k5, rfl, -⟩ := (OwnR.rows hn5).out; simp only [List.length_append, List.length_singleton] at hn5; have hb5 := hXA.grown hg5; have hr5 := Lib.hid (hXA.r ys hn5 hg5); obtain ⟨⟨x0, x1, x2, x3⟩, f0, f1, f2, f3⟩ := blk4 hb5; clear x0 x1 x2 f0 f1 f2)
          go_roundw
          case rel => exact ⟨k + 1, rs ++ [ys], _, by omega, by go_num, hr5.out.1, Lib.hid (by have := sh_snoc (x' := X) (y' := Y) (w' := n) hsh.out hyl; rwa [Nat.add_assoc] at this), hkA.trans hr5.out.2⟩
          case measure => simp [intOf]; omega
        · obtain rfl : k = Y := by omega
          have hd2 : decide ((k : Int) < (k : Int)) = false := by simp
          go_wp2
          go_roundw
          case rel => exact ⟨j + 1, rs, rv, by omega, by go_num, hX, Lib.hid (by rw [Nat.add_mul, Nat.one_mul]; exact hsh.out), hkr⟩
          case measure => simp [intOf]; omega
    · obtain rfl : j = X := by omega
      have hd : decide ((j : Int) < (j : Int)) = false := by simp
      go_upto_region 11 with fail
      have hlw := hX.lt
      have hll := hX.low
      have hzr := hkr.size
      have pz := (hkr.block w.heap.size (by omega) (by omega)).trans p0
      obtain ⟨a7, c7, rfl, -⟩ := (OwnR.rows hX.row).out
      obtain ⟨n7, hn7⟩ : ∃ n, n = rs.length := ⟨_, rfl⟩
      obtain ⟨⟨b0, b1, b2, b3⟩, -⟩ := blk4 (show wr.heap[bb]? = some (.cells #[.int .i64 (j : Int), .int .i64 (Y : Int), .int .i64 n, .slice a7 rs.length c7] 50 (0, 0)) from hX.box)
      obtain ⟨⟨c0, c1, c2, c3⟩, g0, g1, g2, g3⟩ := blk4 pz
      have hO : BoxO wr lo (.agg #[.int .i64 (j : Int), .int .i64 (Y : Int), .int .i64 n, .slice a7 rs.length c7]) ⟨(j : Int), (Y : Int), n, rs⟩ := hX.o
      rw [← hn7] at b3 hO
      obtain ⟨⟨⟨q0, q1⟩, q2, q3⟩, -, hk4⟩ := storedB pz (.int .i64 (j : Int)) (.int .i64 (Y : Int)) (.int .i64 n) (.slice a7 n7 c7)
      replace q0 := Lib.hid q0
      replace q1 := Lib.hid q1
      replace q2 := Lib.hid q2
      replace q3 := Lib.hid q3
      have hfin := Lib.hid (And.intro ((hO.off hk4 fun k e => by omega).mono (show w.heap.size ≤ lo by omega)) (hA0.trans ((hkr.below (B := w.heap.size) (fun k e => by omega) (by omega)).trans (hk4.below (B := w.heap.size) (fun k e => by omega) (by have := hkr.size; omega)))))
      replace hn7 := Lib.hid hn7
      clear pz hO hX hkr hk4
      go_wp2
      refine bodyPost_ret (v := .agg #[.int .i64 (j : Int), .int .i64 (Y : Int), .int .i64 n, .slice a7 n7 c7]) (by simp [results, Try.results100, go_sem, q0.out, q1.out, q2.out, q3.out]) rfl (by first | exact ⟨_, _, rfl, hfin.out.1, (show ((⟨j, Y, n, rs⟩ : BoxD).x = j ∧ (⟨j, Y, n, rs⟩ : BoxD).y = Y ∧ Sh ⟨j, Y, n, rs⟩ (j * Y)) from ⟨rfl, rfl, hsh.out⟩), hfin.out.2⟩ | exact ⟨_, rfl, _, hfin.out.1, (show ((⟨j, Y, n, rs⟩ : BoxD).x = j ∧ (⟨j, Y, n, rs⟩ : BoxD).y = Y ∧ Sh ⟨j, Y, n, rs⟩ (j * Y)) from ⟨rfl, rfl, hsh.out⟩), hfin.out.2⟩)
end Go.Proofs.Ytjeaeninpmaoiaa
/- The sums of two boxes, and a box with other answers: the reference's side; conditions: none. -/
namespace Go.Proofs.Ytjeaeninpmaoiaa
open Go.RowKit

set_option maxRecDepth 100000 in
set_option maxHeartbeats 8000000 in
theorem c_l2Mix (v u : Value) (a b : BoxD) (n : Nat) (hn9 : n ≤ 9) (w : World) (ha : BoxR w v a) (hb : BoxR w u b) (hsa : Sh a n) (hsb : Sh b n) :
    Calls Try.prog 101 #[v, u] w fun e w' => ∃ v' r, e = .returned v' ∧ BoxO w' w.heap.size v' r ∧ (r.x = a.x ∧ r.y = a.y ∧ Sh r n) ∧ Below w.heap.size w w' := by
  obtain ⟨va, rfl, hra⟩ := ha
  obtain ⟨vb, rfl, hrb⟩ := hb
  obtain ⟨da, ka, rfl, hla⟩ := hra.out
  obtain ⟨db, kb, rfl, hlb⟩ := hrb.out
  have hna := hsa.1
  have hnb := hsb.1
  have hwa := Lib.hid hsa.2
  have hwb := Lib.hid hsb.2
  clear hsa hsb
  obtain ⟨A, hA⟩ : ∃ z, z = a.r := ⟨_, rfl⟩
  obtain ⟨B, hB⟩ : ∃ z, z = b.r := ⟨_, rfl⟩
  obtain ⟨ax, hax⟩ : ∃ z, z = a.x := ⟨_, rfl⟩
  obtain ⟨ay, hay⟩ : ∃ z, z = a.y := ⟨_, rfl⟩
  obtain ⟨aw, haw⟩ : ∃ z, z = a.w := ⟨_, rfl⟩
  obtain ⟨bx, hbx⟩ : ∃ z, z = b.x := ⟨_, rfl⟩
  obtain ⟨by', hby⟩ : ∃ z, z = b.y := ⟨_, rfl⟩
  obtain ⟨bw, hbw⟩ : ∃ z, z = b.w := ⟨_, rfl⟩
  rw [← hA] at hra hna hwa hla ⊢
  rw [← hB] at hrb hnb hwb hlb ⊢
  rw [← hax, ← hay, ← haw, ← hbx, ← hby, ← hbw]
  clear hA hB hax hay haw hbx hby hbw
  rw [hna] at hra ⊢
  rw [hnb] at hrb ⊢
  replace hna := Lib.hid hna
  replace hnb := Lib.hid hnb
  have hA0 := (((Below.refl w.heap.size w).alloc (Nat.le_refl _) (.cells #[.int .i64 ax, .int .i64 ay, .int .i64 aw, .slice da n ka] 50)).alloc (by simp) (.cells #[.int .i64 bx, .int .i64 by', .int .i64 bw, .slice db n kb] 50)).alloc (by simp; omega) (.cells #[.int .i64 0, .int .i64 0, .int .i64 0, .slice none 0 0] 50)
  obtain ⟨w0, hw0⟩ : ∃ z, z = ((w.alloc (.cells #[.int .i64 ax, .int .i64 ay, .int .i64 aw, .slice da n ka] 50)).alloc (.cells #[.int .i64 bx, .int .i64 by', .int .i64 bw, .slice db n kb] 50)).alloc (.cells #[.int .i64 0, .int .i64 0, .int .i64 0, .slice none 0 0] 50) := ⟨_, rfl⟩
  have hz0 : w0.heap.size = w.heap.size + 1 + 1 + 1 := by rw [hw0]; simp
  have pa : w0.heap[w.heap.size]? = some (.cells #[.int .i64 ax, .int .i64 ay, .int .i64 aw, .slice da n ka] 50 (0, 0)) := by rw [hw0, heap_alloc_old _ _ (by simp; omega), heap_alloc_old _ _ (by simp)]; exact heap_alloc_at rfl
  have pb : w0.heap[w.heap.size + 1]? = some (.cells #[.int .i64 bx, .int .i64 by', .int .i64 bw, .slice db n kb] 50 (0, 0)) := by rw [hw0, heap_alloc_old _ _ (by simp)]; exact heap_alloc_at (by simp)
  have p0 : w0.heap[w.heap.size + 1 + 1]? = some (.cells #[.int .i64 0, .int .i64 0, .int .i64 0, .slice none 0 0] 50 (0, 0)) := by rw [hw0]; exact heap_alloc_at (by simp)
  rw [← hw0] at hA0
  replace hra := hra.below hA0
  replace hrb := hrb.below hA0
  go_enter Try.func101, Try.ntmps101
  go_upto_region 1 with fail
  rw [← hw0]
  clear hw0
  obtain ⟨⟨x0, x1, x2, x3⟩, -⟩ := blk4 pa
  obtain ⟨⟨t0, t1, t2, t3⟩, -⟩ := blk4 pb
  obtain ⟨wn, hwn⟩ : ∃ z, z = wrap64 (aw + bw) := ⟨_, rfl⟩
  go_upto_region 2 with (rw [← hwn])
  first | rw [← hwn] | skip
  clear hwn x0 x1 x2 x3 t0 t1 t2 t3
  have hz0' : w.heap.size + 1 + 1 < w0.heap.size := by omega
  have hAe := (Below.refl w0.heap.size w0).alloc (Nat.le_refl _) (.cells #[] 26)
  obtain ⟨hX, hAb⟩ := boxX_new (x := ax) (y := ay) (n := wn) (rows0_empty w0) (by simp)
  have hkr : KeptOff (fun k => w0.heap.size ≤ k) w0 _ := (keptOfB (hAe.trans (hAb.mono (by simp))) (by simp; omega))
  simp only [World.size_alloc] at hX
  rw [hz0] at hX hkr
  go_upto_region 2 with fail
  obtain ⟨lo, hlo⟩ : ∃ z, z = w.heap.size + 1 + 1 + 1 := ⟨_, rfl⟩
  obtain ⟨bb, hbb⟩ : ∃ z, z = lo + 1 := ⟨_, rfl⟩
  rw [← hlo, ← hbb] at hX ⊢
  rw [← hlo] at hkr
  obtain ⟨w3, hw3⟩ : ∃ z, z = (w0.alloc (.cells #[] 26)).alloc (.cells #[.int .i64 ax, .int .i64 ay, .int .i64 wn, .slice (some ⟨lo, 0, none⟩) 0 0] 50) := ⟨_, rfl⟩
  rw [← hw3] at hX hkr ⊢
  have hq1 : w.heap.size < lo ∧ lo ≤ w0.heap.size ∧ w0.heap.size ≤ lo ∧ lo < bb := by omega
  clear hw3 hAe hAb hlo hbb hz0
  obtain ⟨rc, hrc⟩ : ∃ z, z = w.heap.size + 1 + 1 := ⟨_, rfl⟩
  rw [← hrc] at p0 ⊢
  have hq2 : w.heap.size + 1 < rc ∧ rc < lo ∧ rc < w0.heap.size := by omega
  clear hrc
  have hk3 := hkr
  go_wp2_with fail
  go_loopw [6] (fun i wr => ∃ (j : Nat) (rs : List (List Int)) (rv : Value), j ≤ n ∧ i = .int .i64 j ∧ BoxX wr lo bb rv ⟨ax, ay, wn, rs⟩ ∧ Hid (Sh ⟨ax, ay, wn, rs⟩ j) ∧ KeptOff (fun q => lo ≤ q) w0 wr) (fun i _ => n - (intOf i).toNat)
  case atStart => exact ⟨0, [], _, Nat.zero_le _, rfl, hX, Lib.hid (sh_nil _ _ _), hkr⟩
  case round =>
    clear hX hkr hk3
    obtain ⟨j, rs, rv, hj, rfl, hX, hsh, hkr⟩ := hrel
    have hlw := hX.lt
    have hll := hX.low
    have hzr := hkr.size
    have hlen : rs.length < 1099511627776 := by have := hsh.out.1; simp at this; omega
    have pa1 := (hkr.block w.heap.size (by omega) (by omega)).trans pa
    have pb1 := (hkr.block (w.heap.size + 1) (by omega) (by omega)).trans pb
    have hw0r : Below w0.heap.size w0 wr := hkr.below (B := w0.heap.size) (fun g e => by omega) (Nat.le_refl _)
    obtain ⟨⟨x0, x1, x2, x3⟩, -⟩ := blk4 pa1
    by_cases hjn : j < n
    · have hd : decide ((j : Int) < (n : Int)) = true := by simp; omega
      obtain ⟨wo, rfl⟩ : ∃ wo : World, wo = wr := ⟨_, rfl⟩
      obtain ⟨ba, oa, d1, c1, rfl, hba, ca1, ia1⟩ := (hra.below hw0r).at j (by have := hna.out; omega)
      obtain ⟨bb2, ob, d2, c2, rfl, hbb2, cb1, ib1⟩ := (hrb.below hw0r).at j (by have := hnb.out; omega)
      have l1 : (A[j]'(by have := hna.out; omega)).length = 4 := hwa.out _ (List.getElem_mem _)
      have l2 : (B[j]'(by have := hnb.out; omega)).length = 4 := hwb.out _ (List.getElem_mem _)
      have hjA : j < A.length := by have := hna.out; omega
      have hjB : j < B.length := by have := hnb.out; omega
      obtain ⟨ra, hra'⟩ : ∃ z, z = A[j]'hjA := ⟨_, rfl⟩
      obtain ⟨rb, hrb'⟩ : ∃ z, z = B[j]'hjB := ⟨_, rfl⟩
      rw [← hra'] at ca1 ia1 l1
      rw [← hrb'] at cb1 ib1 l2
      rw [l1] at ca1 ia1
      rw [l2] at cb1 ib1
      replace l1 := Lib.hid l1
      replace l2 := Lib.hid l2
      clear hra' hrb'
      go_wp2_with fail
      go_loopw [7, 8] (fun v i wr => ∃ (k : Nat) (ys : List Int), k ≤ 4 ∧ i = .int .i64 k ∧ OwnI wr wo.heap.size v ys ∧ Hid (ys.length = k) ∧ Below wo.heap.size wo wr) (fun _ i _ => 4 - (intOf i).toNat)
      case atStart => exact ⟨0, [], by omega, rfl, own_empty _ _ (Nat.le_refl _), Lib.hid rfl, (Below.refl _ _).alloc (Nat.le_refl _) _⟩
      case round =>
        obtain ⟨k, ys, hk, rfl, hown, hyl, hBo⟩ := hrel
        have hszo := hBo.size
        by_cases hk4 : k < 4
        · have hd2 : decide ((k : Int) < 4) = true := by simp; omega
          obtain ⟨p1, q1, e1, hp1, ck1⟩ := (ia1.below hBo).at k (by have := l1.out; omega)
          obtain ⟨p2, q2, e2, hp2, ck2⟩ := (ib1.below hBo).at k (by have := l2.out; omega)
          subst e1 e2
          have pa2 := blk_later hBo pa1
          have pb2 := blk_later hBo pb1
          obtain ⟨⟨-, -, -, s3⟩, -⟩ := blk4 pa2
          obtain ⟨⟨-, -, -, t3⟩, -⟩ := blk4 pb2
          have ca2 := ((bcell hBo).1 _ _ hba).trans ca1
          have cb2 := ((bcell hBo).1 _ _ hbb2).trans cb1
          obtain ⟨xa, hxa⟩ : ∃ z, z = ra[k]'(by have := l1.out; omega) := ⟨_, rfl⟩
          obtain ⟨xb, hxb⟩ : ∃ z, z = rb[k]'(by have := l2.out; omega) := ⟨_, rfl⟩
          rw [← hxa] at ck1
          rw [← hxb] at ck2
          clear hxa hxb
          obtain ⟨s7, n7, k7, rfl⟩ := (show ∃ a n c, _ = Value.slice a n c from by obtain ⟨a, c, e, -⟩ := hown.ints.out; exact ⟨_, _, _, e⟩)
          have hlw1 : w.heap.size < wr.heap.size := by omega
          have hlw2 : w.heap.size + 1 < wr.heap.size := by omega
          have hba' : ba < wr.heap.size := by omega
          have hbb' : bb2 < wr.heap.size := by omega
          have hallr : Below w.heap.size w wr := (hA0.trans (hkr.below (B := w.heap.size) (fun k e => by omega) (by omega))).trans (hBo.mono (by omega))
          go_wp2_with fail
          refine wp_region_rkt (by kernel_rfl) [none, none, none, none, none, none, none, some 20, none, none, none, none, none, none, none, none, none, none, none, none, none, none, none, none, none, none, none, none, none, none, none, none, some 0, some 1, some 2, some 3, some 4, some 5, some 6, some 7, some 8, some 9, some 10, some 11, some 12, some 13, some 14, some 15, some 16, some 17, some 18, some 19] 19 20 (by kernel_rfl) (by kernel_rfl) (by kernel_rfl) _ _ rfl rfl 7 rfl w.heap.size [rkV (.slice s7 n7 k7), rkV (.pointer (some ⟨w.heap.size, 3, none⟩)), rkV (.slice (some ⟨ba, oa, none⟩) n ka), rkV (.int .i64 j), rkV (.pointer (some ⟨ba, oa + j, none⟩)), rkV (.slice (some ⟨p1, q1, none⟩) 4 c1), rkV (.int .i64 k), rkV (.pointer (some ⟨p1, q1 + k, none⟩)), rkV (.int .i64 xa), rkV (.pointer (some ⟨w.heap.size + 1, 3, none⟩)), rkV (.slice (some ⟨bb2, ob, none⟩) n kb), rkV (.int .i64 j), rkV (.pointer (some ⟨bb2, ob + j, none⟩)), rkV (.slice (some ⟨p2, q2, none⟩) 4 c2), rkV (.int .i64 k), rkV (.pointer (some ⟨p2, q2 + k, none⟩)), rkV (.int .i64 xb), rkV (.int .i64 (wrap64 (xa + xb))), rkL [(wrap64 (xa + xb))]] _ rfl (by kernel_rfl) (by simp) ?_ ?_
          · intro i o ho hi hi2 u g ww hbw hu2 hd
            replace hu2 : u 20 = .slice s7 n7 k7 := hu2
            have hall : Below w.heap.size w ww := hallr.trans (hbw.mono (by omega))
            have hlow : w.heap.size ≤ ww.heap.size := hall.size
            obtain ⟨hcl, hfr⟩ := bcell hbw
            have y_s3 := (hcl _ _ (by omega)).trans s3
            have y_t3 := (hcl _ _ (by omega)).trans t3
            have y_ca2 := (hcl _ _ (by omega)).trans ca2
            have y_cb2 := (hcl _ _ (by omega)).trans cb2
            have y_ck1 := (hcl _ _ (by omega)).trans ck1
            have y_ck2 := (hcl _ _ (by omega)).trans ck2
            clear hcl hfr
            rcases i with _ | _ | _ | _ | _ | _ | _ | _ | _ | _ | _ | _ | _ | _ | _ | _ | _ | _ | _ | _ | _ | i
            all_goals try obtain rfl := Option.some.inj ho
            all_goals try simp only [putAll, fillL]
            · rw [hu2]
              go_wp2
              exact ⟨_, by simp only [putAll, fillL, hu2] <;> rfl, kept0 (Below.refl _ _), rfl⟩
            · go_wp2
              exact ⟨_, by simp only [putAll, fillL, hu2] <;> rfl, kept0 (Below.refl _ _), rfl⟩
            · have e1 : u 1 = .pointer (some ⟨w.heap.size, 3, none⟩) := hd 1 (by decide)
              rw [e1]
              go_wp2
              exact ⟨_, by simp only [putAll, fillL, hu2, e1] <;> rfl, kept0 (Below.refl _ _), rfl⟩
            · go_wp2
              exact ⟨_, by simp only [putAll, fillL, hu2] <;> rfl, kept0 (Below.refl _ _), rfl⟩
            · have e2 : u 2 = .slice (some ⟨ba, oa, none⟩) n ka := hd 2 (by decide)
              rw [e2]
              have e3 : u 3 = .int .i64 j := hd 3 (by decide)
              rw [e3]
              go_wp2
              exact ⟨_, by simp only [putAll, fillL, hu2, e2, e3] <;> rfl, kept0 (Below.refl _ _), rfl⟩
            · have e4 : u 4 = .pointer (some ⟨ba, oa + j, none⟩) := hd 4 (by decide)
              rw [e4]
              go_wp2
              exact ⟨_, by simp only [putAll, fillL, hu2, e4] <;> rfl, kept0 (Below.refl _ _), rfl⟩
            · go_wp2
              exact ⟨_, by simp only [putAll, fillL, hu2] <;> rfl, kept0 (Below.refl _ _), rfl⟩
            · have e5 : u 5 = .slice (some ⟨p1, q1, none⟩) 4 c1 := hd 5 (by decide)
              rw [e5]
              have e6 : u 6 = .int .i64 k := hd 6 (by decide)
              rw [e6]
              go_wp2
              exact ⟨_, by simp only [putAll, fillL, hu2, e5, e6] <;> rfl, kept0 (Below.refl _ _), rfl⟩
            · have e7 : u 7 = .pointer (some ⟨p1, q1 + k, none⟩) := hd 7 (by decide)
              rw [e7]
              go_wp2
              exact ⟨_, by simp only [putAll, fillL, hu2, e7] <;> rfl, kept0 (Below.refl _ _), rfl⟩
            · go_wp2
              exact ⟨_, by simp only [putAll, fillL, hu2] <;> rfl, kept0 (Below.refl _ _), rfl⟩
            · have e9 : u 9 = .pointer (some ⟨w.heap.size + 1, 3, none⟩) := hd 9 (by decide)
              rw [e9]
              go_wp2
              exact ⟨_, by simp only [putAll, fillL, hu2, e9] <;> rfl, kept0 (Below.refl _ _), rfl⟩
            · go_wp2
              exact ⟨_, by simp only [putAll, fillL, hu2] <;> rfl, kept0 (Below.refl _ _), rfl⟩
            · have e10 : u 10 = .slice (some ⟨bb2, ob, none⟩) n kb := hd 10 (by decide)
              rw [e10]
              have e11 : u 11 = .int .i64 j := hd 11 (by decide)
              rw [e11]
              go_wp2
              exact ⟨_, by simp only [putAll, fillL, hu2, e10, e11] <;> rfl, kept0 (Below.refl _ _), rfl⟩
            · have e12 : u 12 = .pointer (some ⟨bb2, ob + j, none⟩) := hd 12 (by decide)
              rw [e12]
              go_wp2
              exact ⟨_, by simp only [putAll, fillL, hu2, e12] <;> rfl, kept0 (Below.refl _ _), rfl⟩
            · go_wp2
              exact ⟨_, by simp only [putAll, fillL, hu2] <;> rfl, kept0 (Below.refl _ _), rfl⟩
            · have e13 : u 13 = .slice (some ⟨p2, q2, none⟩) 4 c2 := hd 13 (by decide)
              rw [e13]
              have e14 : u 14 = .int .i64 k := hd 14 (by decide)
              rw [e14]
              go_wp2
              exact ⟨_, by simp only [putAll, fillL, hu2, e13, e14] <;> rfl, kept0 (Below.refl _ _), rfl⟩
            · have e15 : u 15 = .pointer (some ⟨p2, q2 + k, none⟩) := hd 15 (by decide)
              rw [e15]
              go_wp2
              exact ⟨_, by simp only [putAll, fillL, hu2, e15] <;> rfl, kept0 (Below.refl _ _), rfl⟩
            · have e8 : u 8 = .int .i64 xa := hd 8 (by decide)
              rw [e8]
              have e16 : u 16 = .int .i64 xb := hd 16 (by decide)
              rw [e16]
              go_wp2
              exact ⟨_, by simp only [putAll, fillL, hu2, e8, e16] <;> rfl, kept0 (Below.refl _ _), rfl⟩
            · have e17 : u 17 = .int .i64 (wrap64 (xa + xb)) := hd 17 (by decide)
              rw [e17]
              go_wp2
              exact ⟨_, by simp only [putAll, fillL, hu2, e17] <;> rfl, kept0 ((Below.refl _ _).alloc (Nat.le_refl _) _), own_nums ww w.heap.size [(wrap64 (xa + xb))] _ 1 rfl rfl hlow (by simp)⟩
            · exact absurd rfl hi
            · exact absurd rfl hi2
            · simp at ho
          · intro u g w5 hbw hu2 hR hAp
            have R18 : OwnF w5 w.heap.size (InI (g 18)) (u 18) [wrap64 (xa + xb)] := hR 18 (by decide) (by decide) (by decide)
            have e0 : u 0 = .slice s7 n7 k7 := hR 0 (by decide) (by decide) (by decide)
            have rd := R18.rd
            obtain ⟨p18, q18, e18, -⟩ := id rd.out
            replace hu2 : u 20 = .slice s7 n7 k7 := hu2
            have hown5 := hown.below hbw
            have hB5 := hBo.trans (hbw.mono hszo)
            have hz5 := hbw.size
            clear hR hAp R18 s3 t3 ca2 cb2 ck1 ck2 hown hBo hallr
            simp only [putAll, fillL]
            rw [hu2, e18, e0]
            rw [e18] at rd
            refine wp_append_intsG w5 rfl (.tmp 32) (.tmp 50) rfl wo.heap.size _ _ rfl hown5 _ [wrap64 (xa + xb)] rfl rd (by simp) (by have := hyl.out; simp; omega) (by omega) ?_
            intro v' w6 h6 hgr hne6 hblk
            have hB6 := hB5.grown hgr (by omega) (fun g e => (OwnS.lt hown5 g e).1)
            have hyl6 : Hid ((ys ++ [wrap64 (xa + xb)]).length = k + 1) := Lib.hid (by have := hyl.out; simp; omega)
            clear hblk hgr hB5 hown5 hbw
            go_wp2
            go_roundw
            case rel => exact ⟨k + 1, _, by omega, by go_num, h6, hyl6, hB6⟩
            case measure => simp [intOf]; omega
        · obtain rfl : k = 4 := by omega
          have hyl4 := hyl.out
          have hXA := hX.below hBo
          have hRA := OwnR.below hX.row hBo
          have hkA := hkr.trans ((kept0 hBo).mono fun _ f => f.elim)
          obtain ⟨a6, c6, e6, -, -⟩ := hown.ints.out
          rw [hyl4] at e6
          subst e6
          have hdis : ∀ g, (Value.slice a6 4 c6).ownBlock = some g → ¬ (lo ≤ g ∧ g < wo.heap.size) := fun g e f => by have := OwnS.lt hown g e; omega
          clear hX hkr
          go_upto_region 10 with fail
          have hbA := hXA.box
          obtain ⟨⟨y0, y1, y2, y3⟩, g0, g1, g2, g3⟩ := blk4 hbA
          clear y0 y1 y2 g0 g1 g2 g3
          go_wp2_with (at_builtin; refine wp_append_row _ (.slice a6 4 c6) rfl _ _ rfl lo _ _ _ rfl hRA ys (hown.mono (by omega)) hdis rfl (by first | rfl | simp) hlen (by omega) ?_; intro v5 w5 hn5 hg5 hB5 _; obtain ⟨a5, k5, rfl, -⟩ := (OwnR.rows hn5).out; simp only [List.length_append, List.length_singleton] at hn5; have hb5 := hXA.grown hg5; have hr5 := Lib.hid (hXA.r ys hn5 hg5); obtain ⟨⟨x0, x1, x2, x3⟩, f0, f1, f2, f3⟩ := blk4 hb5; clear x0 x1 x2 f0 f1 f2)
          go_roundw
          case rel => exact ⟨j + 1, rs ++ [ys], _, by omega, by go_num, hr5.out.1, Lib.hid (sh_snoc hsh.out hyl4), hkA.trans hr5.out.2⟩
          case measure => simp [intOf]; omega
    · obtain rfl : j = n := by omega
      have hd : decide ((j : Int) < (j : Int)) = false := by simp
      clear x0 x1 x2 x3
      obtain ⟨⟨x0, x1, x2, x3⟩, -⟩ := blk4 pa1
      go_upto_region 11 with fail
      clear x0 x1 x2 x3
      have pz := (hkr.block rc (by omega) (by omega)).trans p0
      obtain ⟨a7, c7, rfl, -⟩ := (OwnR.rows hX.row).out
      obtain ⟨n7, hn7⟩ : ∃ n, n = rs.length := ⟨_, rfl⟩
      obtain ⟨⟨b0, b1, b2, b3⟩, -⟩ := blk4 (show wr.heap[bb]? = some (.cells #[.int .i64 ax, .int .i64 ay, .int .i64 wn, .slice a7 rs.length c7] 50 (0, 0)) from hX.box)
      obtain ⟨⟨c0, c1, c2, c3⟩, g0, g1, g2, g3⟩ := blk4 pz
      have hO : BoxO wr lo (.agg #[.int .i64 ax, .int .i64 ay, .int .i64 wn, .slice a7 rs.length c7]) ⟨ax, ay, wn, rs⟩ := hX.o
      rw [← hn7] at b3 hO
      obtain ⟨⟨⟨q0, q1⟩, q2, q3⟩, -, hk4⟩ := storedB pz (.int .i64 ax) (.int .i64 ay) (.int .i64 wn) (.slice a7 n7 c7)
      replace q0 := Lib.hid q0
      replace q1 := Lib.hid q1
      replace q2 := Lib.hid q2
      replace q3 := Lib.hid q3
      have hfin := Lib.hid (And.intro ((hO.off hk4 fun k e => by omega).mono (show w.heap.size ≤ lo by omega)) (hA0.trans ((hkr.below (B := w.heap.size) (fun k e => by omega) (by omega)).trans (hk4.below (B := w.heap.size) (fun k e => by omega) (by have := hkr.size; omega)))))
      replace hn7 := Lib.hid hn7
      clear pz hO hX hkr hk4
      go_wp2
      refine bodyPost_ret (v := .agg #[.int .i64 ax, .int .i64 ay, .int .i64 wn, .slice a7 n7 c7]) (by simp [results, Try.results101, go_sem, q0.out, q1.out, q2.out, q3.out]) rfl (by first | exact ⟨_, _, rfl, hfin.out.1, (show ((⟨ax, ay, wn, rs⟩ : BoxD).x = ax ∧ (⟨ax, ay, wn, rs⟩ : BoxD).y = ay ∧ Sh ⟨ax, ay, wn, rs⟩ j) from ⟨rfl, rfl, hsh.out⟩), hfin.out.2⟩ | exact ⟨_, rfl, _, hfin.out.1, (show ((⟨ax, ay, wn, rs⟩ : BoxD).x = ax ∧ (⟨ax, ay, wn, rs⟩ : BoxD).y = ay ∧ Sh ⟨ax, ay, wn, rs⟩ j) from ⟨rfl, rfl, hsh.out⟩), hfin.out.2⟩)
end Go.Proofs.Ytjeaeninpmaoiaa
