/- The greatest score of a game with a bit that is told: the program's side; conditions: none. -/
import Derived.Test.YtpieaeokbblflaaTalkVal
namespace Go.Proofs.Ytpieaeokbblflaa
open Go.RowKit

def rowF (r : GameD) (q : Nat) : List Int := mapR (fun j => win r q j * wgt r q) 4
def funL (r : GameD) : List (List Int) := mapR (rowF r) r.r.length

set_option maxRecDepth 100000 in
set_option maxHeartbeats 4000000 in
theorem c_functional (v : Value) (r : GameD) (X Y : Nat) (w : World) (h : GameR w v r) (gk : GameOk r X Y) :
    Calls Try.prog 91 #[v] w fun e w' => ∃ v', e = .returned v' ∧ OwnR w' w.heap.size (fun k => w.heap.size ≤ k ∧ k < w'.heap.size) v' (funL r) ∧ Below w.heap.size w w' := by
  obtain ⟨v2, v3, rfl, hp, hr⟩ := id h
  obtain ⟨a2, k2, rfl, l2, -⟩ := hp.out
  obtain ⟨a3, k3, rfl, l3⟩ := hr.out
  have hA := (Below.refl w.heap.size w).alloc (Nat.le_refl _) (.cells #[.int .i64 r.x, .int .i64 r.y, .slice a2 r.p.length k2, .slice a3 r.r.length k3] 46)
  have pB : (w.alloc (.cells #[.int .i64 r.x, .int .i64 r.y, .slice a2 r.p.length k2, .slice a3 r.r.length k3] 46)).heap[w.heap.size]? = some (.cells #[.int .i64 r.x, .int .i64 r.y, .slice a2 r.p.length k2, .slice a3 r.r.length k3] 46 (0, 0)) := heap_alloc_at rfl
  have hp' := hp.below hA
  have hr' := hr.below hA
  have hN : r.r.length ≤ 9 ∧ r.p.length = r.r.length := by
    have h1 := gk.bx
    have h2 := gk.bY
    have h3 := gk.lp
    have h4 := gk.lr
    have hX : X = 1 ∨ X = 2 ∨ X = 3 := by omega
    rcases hX with rfl | rfl | rfl <;> omega
  obtain ⟨w2, hw2⟩ : ∃ z, z = w.alloc (.cells #[.int .i64 r.x, .int .i64 r.y, .slice a2 r.p.length k2, .slice a3 r.r.length k3] 46) := ⟨_, rfl⟩
  rw [← hw2] at hA pB hp' hr'
  have hs2 : w2.heap.size = w.heap.size + 1 := by rw [hw2]; simp
  obtain ⟨⟨z0, z1, z2, z3⟩, -⟩ := blk4 pB
  have hB := Below.refl (w.heap.size + 1) w2
  obtain ⟨hN, hNe⟩ := hN
  replace hNe := Lib.hid hNe
  replace gk := Lib.hid gk
  replace hw2 := Lib.hid hw2
  go_enter Try.func91, Try.ntmps91
  go_wp2_with fail
  rw [← hw2.out]
  clear z0 z1 z2 z3
  go_loopw [3, 13] (fun v i wr => ∃ k : Nat, k ≤ r.r.length ∧ i = .int .i64 k ∧ OwnR wr (w.heap.size + 1) (fun b => w.heap.size + 1 ≤ b ∧ b < wr.heap.size) v (mapR (rowF r) k) ∧ Below (w.heap.size + 1) w2 wr) (fun _ i _ => r.r.length - (intOf i).toNat)
  case atStart =>
    have h0 := ownR_empty w2 (w.heap.size + 1) (by omega)
    rw [hs2] at h0
    exact ⟨0, Nat.zero_le _, rfl, h0, hB.alloc (by omega) _⟩
  case round =>
    clear hB
    obtain ⟨k, hk, rfl, hown, hB⟩ := hrel
    have hsz := hB.size
    by_cases hlt : k < r.r.length
    · obtain ⟨wo, rfl⟩ : ∃ wo : World, wo = wr := ⟨_, rfl⟩
      have hd : decide ((k : Int) < (r.r.length : Int)) = true := by simp; omega
      have hBw : Below w2.heap.size w2 wo := hB.mono (by omega)
      have hqp : k < r.p.length := by have := hNe.out; omega
      obtain ⟨bl, off, rfl, hb1, hcell⟩ := (hp'.below hBw).at k hqp
      obtain ⟨bl2, off2, a5, c5, rfl, hb2, hcell2, hi2⟩ := (hr'.below hBw).at k hlt
      have h4 := gk.out.l4 k hlt
      have e1 : r.p[k] = wgt r k := by simp [wgt, List.getD, hqp]
      rw [e1] at hcell
      rw [h4] at hcell2 hi2
      have hwg := gk.out.wg k
      obtain ⟨u1, hu1⟩ : ∃ z, z = wgt r k := ⟨_, rfl⟩
      have hF : rowF r k = mapR (fun j => win r k j * u1) 4 := by rw [hu1]; rfl
      rw [← hu1] at hcell hwg
      replace hF := Lib.hid hF
      clear hu1 e1
      go_wp2_with fail
      clear hcell2
      go_loopw [6, 21] (fun v i wr => ∃ j : Nat, j ≤ 4 ∧ i = .int .i64 j ∧ OwnI wr wo.heap.size v (mapR (fun j => win r k j * u1) j) ∧ Below wo.heap.size wo wr) (fun _ i _ => 4 - (intOf i).toNat)
      case atStart => exact ⟨0, by omega, rfl, own_empty _ _ (Nat.le_refl _), (Below.refl _ _).alloc (Nat.le_refl _) _⟩
      case round =>
        obtain ⟨j, hj, rfl, hrowo, hBo⟩ := hrel
        have hszo := hBo.size
        by_cases hltj : j < 4
        · have hdj : decide ((j : Int) < 4) = true := by simp; omega
          have hjl : j < r.r[k].length := by omega
          obtain ⟨b2, o2, e, hb3, hc3⟩ := (hi2.below hBo).at j hjl
          subst e
          have e2 : r.r[k][j] = win r k j := by simp [win, List.getD, hlt, hjl]
          rw [e2] at hc3
          have hwn := gk.out.wn k j
          have hmb : 0 ≤ win r k j * u1 ∧ win r k j * u1 ≤ 99 := by rcases hwn with h | h <;> rw [h] <;> omega
          have hwb : 0 ≤ win r k j ∧ win r k j ≤ 1 := by rcases hwn with h | h <;> rw [h] <;> omega
          obtain ⟨u2, hu2⟩ : ∃ z, z = win r k j := ⟨_, rfl⟩
          have hnx : Hid (mapR (fun j => win r k j * u1) j ++ [u2 * u1] = mapR (fun j => win r k j * u1) (j + 1)) := Lib.hid (by rw [mapR_succ, hu2])
          rw [← hu2] at hc3 hmb hwb
          clear hwn e2 hu2
          obtain ⟨⟨z0, z1, z2, z3⟩, -⟩ := blk4 ((hBo.block _ (by omega)).trans ((hB.block _ (by omega)).trans pB))
          have hcw : wr.cell? ⟨bl, off + k, none⟩ = some (.int .i64 u1) := ((bcell hBo).1 _ _ hb1).trans hcell
          have hdk : decide ((k : Int) < (r.p.length : Int)) = true := by simp; omega
          go_wp2_with (at_builtin; refine wp_append_int _ _ rfl _ _ rfl wo.heap.size _ _ rfl hrowo rfl (by first | rfl | simp) (by rw [mapR_len]; omega) hszo ?_; intro v' w3 hown2 _ hB3 _)
          rw [hnx.out] at hown2
          have hB4 := hBo.trans hB3
          clear z0 z1 z2 z3 hcw hc3 hrowo hB3
          go_roundw
          case rel => first | exact ⟨j + 1, by omega, by go_num, hown2, hB4⟩ | ((repeat apply Exists.intro); exact ⟨⟨j + 1, by omega, rfl, hown2, hB4⟩, rfl⟩)
          case measure => simp [intOf]; omega
        · obtain rfl : j = 4 := by omega
          have hown := hown.below hBo
          obtain ⟨a6, c6, e6, -, -⟩ := hrowo.ints.out
          rw [mapR_len] at e6
          subst e6
          rw [← hF.out] at hrowo
          go_wp2_with (at_builtin; refine wp_append_row _ _ rfl _ _ rfl (w.heap.size + 1) _ _ _ rfl hown (rowF r k) (hrowo.mono (by omega)) (fun g hg hf => by have a := OwnS.lt hrowo g hg; have b := hf.2; omega) rfl (by first | rfl | simp) (by rw [mapR_len]; omega) (by omega) ?_; intro v' w3 hown2 _ hB2 _)
          rw [← mapR_succ (rowF r)] at hown2
          have hB3 := hB.trans (hBo.mono (by omega))
          have hB4 := hB3.trans hB2
          go_roundw
          case rel => first | exact ⟨k + 1, by omega, by go_num, hown2, hB4⟩ | ((repeat apply Exists.intro); exact ⟨⟨k + 1, by omega, rfl, hown2, hB4⟩, rfl⟩)
          case measure => simp [intOf]; omega
    · obtain rfl : k = r.r.length := by omega
      go_wp2
      go_ret
      exact ⟨_, rfl, hown.mono (by omega) (fun b hb => ⟨by omega, hb.2⟩), hA.trans (hB.mono (by omega))⟩

theorem fun_at {w : World} {bl off n cap : Nat} {r : GameD} (h : Rows2 w (.slice (some ⟨bl, off, none⟩) n cap) (funL r)) (q : Nat) (hq : q < r.r.length) :
    bl < w.heap.size ∧ ∃ b3 o3 c3, w.cell? ⟨bl, off + q, none⟩ = some (.slice (some ⟨b3, o3, none⟩) 4 c3) ∧ b3 < w.heap.size ∧ ∀ j, j < 4 → w.cell? ⟨b3, o3 + j, none⟩ = some (.int .i64 (wgt r q * win r q j)) := by
  have hl : (funL r).length = r.r.length := mapR_len _ _
  have hql : q < (funL r).length := by omega
  have he : (funL r)[q] = rowF r q := by simp [funL, mapR]
  obtain ⟨b1, o1, a', c', e, hb, hc, hi⟩ := h.at q hql
  simp only [Option.some.injEq, Addr.mk.injEq, and_true] at e
  obtain ⟨rfl, rfl⟩ := e
  rw [he] at hc hi
  have h4 : (rowF r q).length = 4 := mapR_len _ _
  rw [h4] at hc hi
  obtain ⟨b3, o3, rfl, hb3, -⟩ := hi.at 0 (by omega)
  refine ⟨hb, b3, o3, c', hc, hb3, fun j hj => ?_⟩
  obtain ⟨b4, o4, e, -, hc4⟩ := hi.at j (by omega)
  simp only [Option.some.injEq, Addr.mk.injEq, and_true] at e
  obtain ⟨rfl, rfl⟩ := e
  rw [hc4]
  simp [rowF, mapR, Int.mul_comm]
theorem four_next {r : GameD} {Y c s y x b ta j : Nat} {v0 wv : Int} (hb : b < 2) (hta : nb x s = ta) (hv : sc r Y c s y ta b (x + 1) = v0 + wv) :
    (if j = ta * 2 + b then v0 + wv else if j % 2 < b then sc r Y c s y (j / 2) (j % 2) (x + 1) else sc r Y c s y (j / 2) (j % 2) x) = if j % 2 < b + 1 then sc r Y c s y (j / 2) (j % 2) (x + 1) else sc r Y c s y (j / 2) (j % 2) x := by
  by_cases e : j = ta * 2 + b
  · subst e
    rw [if_pos rfl, if_pos (by omega), show (ta * 2 + b) / 2 = ta by omega, show (ta * 2 + b) % 2 = b by omega, hv]
  · rw [if_neg e]
    by_cases e2 : j % 2 < b
    · rw [if_pos e2, if_pos (by omega)]
    · rw [if_neg e2]
      by_cases e3 : j % 2 < b + 1
      · rw [if_pos e3, sc_no (by omega)]
      · rw [if_neg e3]


set_option maxRecDepth 100000 in
set_option maxHeartbeats 4000000 in
theorem c_impl_TalkValue (v : Value) (r : GameD) (w : World) (h : GameR w v r) :
    Calls Try.prog 30 #[v] w fun e w' => e = .returned (.tuple #[.int .i64 (tvV r), .bool (gameB r)]) ∧ Below w.heap.size w w' := by
  have h2 := h
  obtain ⟨v2, v3, rfl, hp, hr⟩ := id h
  obtain ⟨a2, k2, rfl, l2, -⟩ := hp.out
  obtain ⟨a3, k3, rfl, l3⟩ := hr.out
  have hA := (Below.refl w.heap.size w).alloc (Nat.le_refl _) (.cells #[.int .i64 r.x, .int .i64 r.y, .slice a2 r.p.length k2, .slice a3 r.r.length k3] 46)
  have pB : (w.alloc (.cells #[.int .i64 r.x, .int .i64 r.y, .slice a2 r.p.length k2, .slice a3 r.r.length k3] 46)).heap[w.heap.size]? = some (.cells #[.int .i64 r.x, .int .i64 r.y, .slice a2 r.p.length k2, .slice a3 r.r.length k3] 46 (0, 0)) := heap_alloc_at rfl
  replace h2 := h2.below hA
  obtain ⟨⟨z0, z1, z2, z3⟩, -⟩ := blk4 pB
  cases hg : gameB r
  · have hF : Hid (tvV r = 0) := Lib.hid (by simp [tvV, hg])
    replace hg := Lib.hid hg
    go_enter Try.func30, Try.ntmps30
    go_wp2_with fail
    refine (c_IsGame _ r _ h2).mono ?_
    rintro e w2 ⟨rfl, hB⟩
    rw [hg.out]
    go_wp2
    go_ret2
    exact ⟨by rw [hF.out]; rfl, bstep hA hB⟩
  obtain ⟨X, Y, gk⟩ := game_ok hg
  have bX := gk.bx
  have bY := gk.bY
  obtain ⟨eN, hN1, hN2⟩ := shl_oneG X bX.2
  obtain ⟨Z, hZ⟩ : ∃ z, z = 2 ^ X := ⟨_, rfl⟩
  have hV : Hid (tvV r = bstT r X Y Z (Z * Z)) := Lib.hid (by rw [hZ]; simp [tvV, hg, gk.hx, gk.hy])
  rw [← hZ] at eN hN1 hN2
  rw [gk.hx, gk.hy] at h h2 hA pB z0 z1 z2 z3 ⊢
  have hlr := gk.lr
  obtain ⟨N, hNd⟩ : ∃ z, z = X * Y := ⟨_, rfl⟩
  rw [← hNd] at hlr
  have hN0 : 1 ≤ N := by rw [hNd]; exact Nat.mul_pos bX.1 bY.1
  replace hlr := Lib.hid hlr
  replace hNd := Lib.hid hNd
  replace hg := Lib.hid hg
  replace gk := Lib.hid gk
  replace hZ := Lib.hid hZ
  go_enter Try.func30, Try.ntmps30
  go_wp2_with fail
  refine (c_IsGame _ r _ h2).mono ?_
  clear z0 z1 z2 z3
  rintro e w1 ⟨rfl, hB⟩
  rw [hg.out]
  replace hA := bstep hA hB
  replace h2 := h2.below hB
  replace pB := blk_later hB pB
  clear hB
  obtain ⟨⟨z0, z1, z2, z3⟩, -⟩ := blk4 pB
  go_wp2_with fail
  refine (c_functional _ r X Y _ h2 gk.out).mono ?_
  clear z0 z1 z2 z3
  rintro e w3 ⟨vf, rfl, hvf, hB⟩
  replace hA := bstep hA hB
  replace pB := blk_later hB pB
  have hs1 := (Array.getElem?_eq_some_iff.1 pB).1
  have hf := hvf.rows
  clear hvf hB h2
  obtain ⟨adf, capf, e6, -⟩ := hf.out
  rw [show (funL r).length = N by rw [← hlr.out]; exact mapR_len _ _] at e6
  subst e6
  obtain ⟨fb, fo, aq, cq, rfl, hfb, -, -⟩ := hf.at 0 (by rw [show (funL r).length = N by rw [← hlr.out]; exact mapR_len _ _]; omega)
  obtain ⟨⟨z0, z1, z2, z3⟩, -⟩ := blk4 pB
  have hB := Below.refl w3.heap.size w3
  go_wp2_with fail
  clear z0 z1 z2 z3
  go_loopw [5, 21] (fun m a wr => ∃ c : Nat, c ≤ Z ∧ a = .int .i64 c ∧ m = .int .i64 (bstT r X Y Z (c * Z)) ∧ Below w3.heap.size w3 wr) (fun _ a _ => Z - (intOf a).toNat)
  case atStart => exact ⟨0, by omega, rfl, by rw [Nat.zero_mul]; rfl, hB⟩
  case round =>
    clear hB
    obtain ⟨c, hc, rfl, rfl, hB⟩ := hrel
    obtain ⟨⟨z0, z1, z2, z3⟩, -⟩ := blk4 ((hB.block _ (by omega)).trans pB)
    by_cases hlc : c < Z
    · have hdc : decide ((c : Int) < (Z : Int)) = true := by simp; omega
      go_wp2_with fail
      clear z0 z1 z2 z3
      go_loopw [5, 27] (fun m a wr => ∃ s : Nat, s ≤ Z ∧ a = .int .i64 s ∧ m = .int .i64 (bstT r X Y Z (c * Z + s)) ∧ Below w3.heap.size w3 wr) (fun _ a _ => Z - (intOf a).toNat)
      case atStart => exact ⟨0, by omega, rfl, rfl, hB⟩
      case round =>
        clear hB
        obtain ⟨s, hs, rfl, rfl, hB⟩ := hrel
        obtain ⟨⟨z0, z1, z2, z3⟩, -⟩ := blk4 ((hB.block _ (by omega)).trans pB)
        by_cases hls : s < Z
        · have hds : decide ((s : Int) < (Z : Int)) = true := by simp; omega
          have hnx : Hid (bstT r X Y Z (c * Z + (s + 1)) = max (bstT r X Y Z (c * Z + s)) (sumY r X Y c s Y)) := Lib.hid (by
            rw [show c * Z + (s + 1) = c * Z + s + 1 by omega]
            conv => lhs; unfold bstT
            rw [show (c * Z + s) / Z = c by rw [Nat.mul_comm, Nat.mul_add_div (by omega), Nat.div_eq_of_lt hls]; omega, show (c * Z + s) % Z = s by rw [Nat.mul_comm, Nat.mul_add_mod, Nat.mod_eq_of_lt hls]])
          obtain ⟨be, hbe⟩ : ∃ z, z = bstT r X Y Z (c * Z + s) := ⟨_, rfl⟩
          rw [← hbe] at hnx ⊢
          clear hbe
          go_wp2_with fail
          clear z0 z1 z2 z3
          go_loopw [8, 32] (fun m a wr => ∃ y : Nat, y ≤ Y ∧ a = .int .i64 y ∧ m = .int .i64 (sumY r X Y c s y) ∧ Below w3.heap.size w3 wr) (fun _ a _ => Y - (intOf a).toNat)
          case atStart => exact ⟨0, by omega, rfl, rfl, hB⟩
          case round =>
            clear hB
            obtain ⟨y, hy, rfl, rfl, hB⟩ := hrel
            obtain ⟨⟨z0, z1, z2, z3⟩, -⟩ := blk4 ((hB.block _ (by omega)).trans pB)
            have hsz := hB.size
            have hbs := gk.out.sumY c s y
            by_cases hly : y < Y
            · have hdy : decide ((y : Int) < (Y : Int)) = true := by simp; omega
              have hps : Hid (sumY r X Y c s (y + 1) = sumY r X Y c s y + (mx r X Y c s y 0 + mx r X Y c s y 1)) := Lib.hid rfl
              obtain ⟨su, hsu⟩ : ∃ z, z = sumY r X Y c s y := ⟨_, rfl⟩
              rw [← hsu] at hps hbs ⊢
              clear hsu
              have hT : TwoC (wr.alloc (.cells #[.int .i64 0, .int .i64 0, .int .i64 0, .int .i64 0] 101)) wr.heap.size 4 (fun j => sc r Y c s y (j / 2) (j % 2) 0) := by
                refine ⟨by simp, fun j hj => ?_⟩
                have hj2 : j = 0 ∨ j = 1 ∨ j = 2 ∨ j = 3 := by omega
                have hb := heap_alloc_at (w := wr) (o := .cells #[.int .i64 0, .int .i64 0, .int .i64 0, .int .i64 0] 101) rfl
                obtain ⟨⟨c0, c1, c2, c3⟩, f0, f1, f2, f3⟩ := blk4 hb
                rcases hj2 with rfl | rfl | rfl | rfl
                · exact ⟨c0, f0⟩
                · exact ⟨c1, f1⟩
                · exact ⟨c2, f2⟩
                · exact ⟨c3, f3⟩
              have hB2 := hB.alloc (by omega) (.cells #[.int .i64 0, .int .i64 0, .int .i64 0, .int .i64 0] 101)
              obtain ⟨sb, hsb⟩ : ∃ z, z = wr.heap.size := ⟨_, rfl⟩
              replace hT := Lib.hid hT
              obtain ⟨wn, hwn⟩ : ∃ z, z = wr.alloc (.cells #[.int .i64 0, .int .i64 0, .int .i64 0, .int .i64 0] 101) := ⟨_, rfl⟩
              rw [← hwn] at hT hB2
              have hsbw : w3.heap.size ≤ sb := by omega
              rw [← hsb] at hT
              replace hwn := Lib.hid hwn
              replace hsb := Lib.hid hsb
              have hne : w.heap.size < wr.heap.size := by omega
              have hne2 : w.heap.size ≠ wr.heap.size := by omega
              go_wp2_with fail
              rw [← hwn.out, ← hsb.out]
              clear hwn hsb hB hsz z0 z1 z2 z3
              go_loopw [38] (fun a wr => ∃ x : Nat, x ≤ X ∧ a = .int .i64 x ∧ Hid (TwoC wr sb 4 (fun j => sc r Y c s y (j / 2) (j % 2) x)) ∧ Below w3.heap.size w3 wr) (fun a _ => X - (intOf a).toNat)
              case atStart => exact ⟨0, by omega, rfl, hT, hB2⟩
              case round =>
                clear hT hB2
                obtain ⟨x, hx, rfl, hT, hB⟩ := hrel
                have hsz := hB.size
                by_cases hlx : x < X
                · have hdx : decide ((x : Int) < (X : Int)) = true := by simp; omega
                  obtain ⟨i1, i2, i3⟩ := gk.out.idx hlx hly
                  rw [← hNd.out] at i1 i2
                  have hm : ((x : Int) * (Y : Int)) = ((x * Y : Nat) : Int) := by simp
                  have hVV : ∀ a b, wonF r Y x y a b = wgt r (x * Y + y) * win r (x * Y + y) (2 * a + b) := fun _ _ => rfl
                  generalize x * Y = P at i1 i3 hm hVV
                  replace hVV := Lib.hid hVV
                  have hdq : decide (((P : Int) + (y : Int)) < (N : Int)) = true := by simp; omega
                  obtain ⟨ta, hta⟩ : ∃ z, z = nb x s := ⟨_, rfl⟩
                  obtain ⟨ca, hca0⟩ : ∃ z, z = nb x c := ⟨_, rfl⟩
                  have hca : ca ≤ 1 := hca0 ▸ nb_le _ _
                  have lta : ta ≤ 1 := hta ▸ nb_le _ _
                  have ea : bits .and .i64 ((s : Int) / 2 ^ x) 1 = (ta : Int) := by rw [hta]; exact nb_and s x (by omega)
                  have eb : bits .and .i64 ((c : Int) / 2 ^ x) 1 = (ca : Int) := by rw [hca0]; exact nb_and c x (by omega)
                  replace hca0 := Lib.hid hca0
                  replace hta := Lib.hid hta
                  go_wp2_with fail
                  go_loopw [41] (fun a wr => ∃ b : Nat, b ≤ 2 ∧ a = .int .i64 b ∧ Hid (TwoC wr sb 4 (fun j => if j % 2 < b then sc r Y c s y (j / 2) (j % 2) (x + 1) else sc r Y c s y (j / 2) (j % 2) x)) ∧ Below w3.heap.size w3 wr) (fun a _ => 2 - (intOf a).toNat)
                  case atStart => exact ⟨0, by omega, rfl, Lib.hid (hT.out.cong fun j _ => by simp), hB⟩
                  case round =>
                    clear hT hB hsz
                    obtain ⟨b, hb, rfl, hT, hB⟩ := hrel
                    have hsz := hB.size
                    obtain ⟨⟨z0, z1, z2, z3⟩, -⟩ := blk4 ((hB.block _ (by omega)).trans pB)
                    by_cases hlt : b < 2
                    · have hdt : decide ((b : Int) < 2) = true := by simp; omega
                      have hdj : decide ((2 * (ca : Int) + (b : Int)) < 4) = true := by simp; omega
                      have hbv := gk.out.sc c s y ta b x
                      have hbw0 := gk.out.won x y ca b
                      obtain ⟨d0, f0⟩ := hT.out.2 (ta * 2 + b) (by omega)
                      simp only [show (ta * 2 + b) % 2 = b by omega, show (ta * 2 + b) / 2 = ta by omega, Nat.lt_irrefl, if_false] at d0
                      have hst : sc r Y c s y ta b (x + 1) = sc r Y c s y ta b x + wonF r Y x y ca b := by rw [hca0.out]; exact sc_yes hta.out.symm
                      obtain ⟨hfl, b3, o3, c3, e3, hb3, e4⟩ := fun_at (hf.below hB) (P + y) (by rw [hlr.out]; omega)
                      have e5 := e4 (2 * ca + b) (by omega)
                      rw [← hVV.out] at e5
                      obtain ⟨v0, hv0⟩ : ∃ z, z = sc r Y c s y ta b x := ⟨_, rfl⟩
                      obtain ⟨wv, hwv⟩ : ∃ z, z = wonF r Y x y ca b := ⟨_, rfl⟩
                      rw [← hv0] at d0 hbv hst
                      rw [← hwv] at hbw0 hst e5
                      have hT6 : Hid (TwoC (wr.setCell ⟨sb, ta * 2 + b, none⟩ (.int .i64 (v0 + wv))).drew sb 4 (fun j => if j % 2 < b + 1 then sc r Y c s y (j / 2) (j % 2) (x + 1) else sc r Y c s y (j / 2) (j % 2) x)) := Lib.hid (((hT.out.put (show ta * 2 + b < 4 by omega) (v0 + wv)).cong fun j _ => four_next hlt hta.out.symm hst).below (Below.refl _ _).drew)
                      have hB6 := (hB.setCell (p := ⟨sb, ta * 2 + b, none⟩) (by simp; omega) (.int .i64 (v0 + wv))).drew
                      clear e4 hv0 hwv hst hT hB
                      go_wp2_with fail
                      go_region
                      clear d0 f0 e3 e5 z0 z1 z2 z3
                      go_wp2
                      go_roundw
                      case rel => first | exact ⟨b + 1, by omega, by go_num, hT6, hB6⟩ | ((repeat apply Exists.intro); exact ⟨⟨b + 1, by omega, rfl, hT6, hB6⟩, rfl⟩)
                      case measure => simp [intOf]; omega
                    · obtain rfl : b = 2 := by omega
                      have hT2 : Hid (TwoC wr sb 4 (fun j => sc r Y c s y (j / 2) (j % 2) (x + 1))) := Lib.hid (hT.out.cong fun j hj => by rw [if_pos (by omega)])
                      clear hT z0 z1 z2 z3
                      go_wp2
                      go_roundw
                      case rel => first | exact ⟨x + 1, by omega, by go_num, hT2, hB⟩ | ((repeat apply Exists.intro); exact ⟨⟨x + 1, by omega, rfl, hT2, hB⟩, rfl⟩)
                      case measure => simp [intOf]; omega
                · obtain rfl : X = x := by omega
                  have d0 : wr.cell? ⟨sb, 0, none⟩ = some (.int .i64 (sc r Y c s y 0 0 X)) := (hT.out.2 0 (by decide)).1
                  have d1 : wr.cell? ⟨sb, 1, none⟩ = some (.int .i64 (sc r Y c s y 0 1 X)) := (hT.out.2 1 (by decide)).1
                  have d2 : wr.cell? ⟨sb, 2, none⟩ = some (.int .i64 (sc r Y c s y 1 0 X)) := (hT.out.2 2 (by decide)).1
                  have d3 : wr.cell? ⟨sb, 3, none⟩ = some (.int .i64 (sc r Y c s y 1 1 X)) := (hT.out.2 3 (by decide)).1
                  have q0 := gk.out.sc c s y 0 0 X
                  have q1 := gk.out.sc c s y 0 1 X
                  have q2 := gk.out.sc c s y 1 0 X
                  have q3 := gk.out.sc c s y 1 1 X
                  unfold mx at hps
                  generalize sc r Y c s y 0 0 X = v0 at d0 q0 hps
                  generalize sc r Y c s y 0 1 X = v1 at d1 q1 hps
                  generalize sc r Y c s y 1 0 X = v2 at d2 q2 hps
                  generalize sc r Y c s y 1 1 X = v3 at d3 q3 hps
                  clear hT
                  by_cases m1 : v0 < v1 <;> by_cases m2 : v2 < v3
                  · skip
                    have hq : Hid (su + (v1 + v3) = sumY r X Y c s (y + 1)) := Lib.hid (by rw [hps.out]; omega)
                    go_wp2
                    go_roundw
                    case rel => first | exact ⟨y + 1, by omega, by go_num, by rw [← hq.out], hB⟩ | ((repeat apply Exists.intro); exact ⟨⟨y + 1, by omega, rfl, by rw [← hq.out], hB⟩, rfl⟩)
                    case measure => simp [intOf]; omega
                  · skip
                    have hq : Hid (su + (v1 + v2) = sumY r X Y c s (y + 1)) := Lib.hid (by rw [hps.out]; omega)
                    go_wp2
                    go_roundw
                    case rel => first | exact ⟨y + 1, by omega, by go_num, by rw [← hq.out], hB⟩ | ((repeat apply Exists.intro); exact ⟨⟨y + 1, by omega, rfl, by rw [← hq.out], hB⟩, rfl⟩)
                    case measure => simp [intOf]; omega
                  · skip
                    have hq : Hid (su + (v0 + v3) = sumY r X Y c s (y + 1)) := Lib.hid (by rw [hps.out]; omega)
                    go_wp2
                    go_roundw
                    case rel => first | exact ⟨y + 1, by omega, by go_num, by rw [← hq.out], hB⟩ | ((repeat apply Exists.intro); exact ⟨⟨y + 1, by omega, rfl, by rw [← hq.out], hB⟩, rfl⟩)
                    case measure => simp [intOf]; omega
                  · skip
                    have hq : Hid (su + (v0 + v2) = sumY r X Y c s (y + 1)) := Lib.hid (by rw [hps.out]; omega)
                    go_wp2
                    go_roundw
                    case rel => first | exact ⟨y + 1, by omega, by go_num, by rw [← hq.out], hB⟩ | ((repeat apply Exists.intro); exact ⟨⟨y + 1, by omega, rfl, by rw [← hq.out], hB⟩, rfl⟩)
                    case measure => simp [intOf]; omega
            · obtain rfl : Y = y := by omega
              clear z0 z1 z2 z3
              by_cases m1 : be < sumY r X Y c s Y
              · skip
                have hq : Hid (sumY r X Y c s Y = bstT r X Y Z (c * Z + (s + 1))) := Lib.hid (by rw [hnx.out]; omega)
                go_wp2
                go_roundw
                case rel => first | exact ⟨s + 1, by omega, by go_num, by rw [← hq.out], hB⟩ | ((repeat apply Exists.intro); exact ⟨⟨s + 1, by omega, rfl, by rw [← hq.out], hB⟩, rfl⟩)
                case measure => simp [intOf]; omega
              · skip
                have hq : Hid (be = bstT r X Y Z (c * Z + (s + 1))) := Lib.hid (by rw [hnx.out]; omega)
                go_wp2
                go_roundw
                case rel => first | exact ⟨s + 1, by omega, by go_num, by rw [← hq.out], hB⟩ | ((repeat apply Exists.intro); exact ⟨⟨s + 1, by omega, rfl, by rw [← hq.out], hB⟩, rfl⟩)
                case measure => simp [intOf]; omega
        · obtain rfl : s = Z := by omega
          clear z0 z1 z2 z3
          go_wp2
          go_roundw
          case rel => first | exact ⟨c + 1, by omega, by go_num, by rw [Nat.succ_mul], hB⟩ | ((repeat apply Exists.intro); exact ⟨⟨c + 1, by omega, rfl, by rw [Nat.succ_mul], hB⟩, rfl⟩)
          case measure => simp [intOf]; omega
    · obtain rfl : c = Z := by omega
      clear z0 z1 z2 z3
      have hall := bstep hA hB
      go_wp2
      go_ret2
      exact ⟨by rw [hV.out]; rfl, hall⟩
end Go.Proofs.Ytpieaeokbblflaa
