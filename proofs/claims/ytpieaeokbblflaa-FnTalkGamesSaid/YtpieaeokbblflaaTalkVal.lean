/- The greatest score of a game with a bit that is told: the reference's side; conditions: none. -/
import Derived.Test.YtpieaeokbblflaaGameIs
import Derived.Test.YtpieaeokbblflaaBits
import Derived.Test.YtpieaeokbblflaaRk
import Derived.BigRegion
import Derived.BigQuiet
namespace Go.Proofs.Ytpieaeokbblflaa
open Go.RowKit

def wgt (r : GameD) (q : Nat) : Int := r.p.getD q 0
def win (r : GameD) (q j : Nat) : Int := (r.r.getD q []).getD j 0
def wonF (r : GameD) (Y x y a b : Nat) : Int := wgt r (x * Y + y) * win r (x * Y + y) (2 * a + b)
def nb (i k : Nat) : Nat := k / 2 ^ i % 2
theorem nb_le (i k : Nat) : nb i k ≤ 1 := by unfold nb; omega
theorem nb_and (k j : Nat) (h : k < 1000) : bits .and .i64 ((k : Int) / 2 ^ j) 1 = ((nb j k : Nat) : Int) := and1_div k j (by omega)
/-- what the second player's answer b wins behind a bit, of the first n questions of the first player -/
def sc (r : GameD) (Y c s y bit b : Nat) : Nat → Int
  | 0 => 0
  | n + 1 => sc r Y c s y bit b n + (if nb n s = bit then wonF r Y n y (nb n c) b else 0)
def mx (r : GameD) (X Y c s y bit : Nat) : Int := max (sc r Y c s y bit 0 X) (sc r Y c s y bit 1 X)
def sumY (r : GameD) (X Y c s : Nat) : Nat → Int
  | 0 => 0
  | y + 1 => sumY r X Y c s y + (mx r X Y c s y 0 + mx r X Y c s y 1)
def parS (r : GameD) (X Y c s y : Nat) : Nat → Int
  | 0 => 0
  | 1 => mx r X Y c s y 0
  | _ => mx r X Y c s y 0 + mx r X Y c s y 1
/-- the best of the first q pairs of a code and what is said -/
def bstT (r : GameD) (X Y Z : Nat) : Nat → Int
  | 0 => 0
  | q + 1 => max (bstT r X Y Z q) (sumY r X Y (q / Z) (q % Z) Y)
def tvV (r : GameD) : Int := if gameB r then bstT r r.x.toNat r.y.toNat (2 ^ r.x.toNat) (2 ^ r.x.toNat * 2 ^ r.x.toNat) else 0

structure GameOk (r : GameD) (X Y : Nat) : Prop where
  hx : r.x = (X : Int)
  hy : r.y = (Y : Int)
  bx : 1 ≤ X ∧ X ≤ 3
  bY : 1 ≤ Y ∧ Y ≤ 3
  lp : r.p.length = X * Y
  lr : r.r.length = X * Y
  wg : ∀ q, 0 ≤ wgt r q ∧ wgt r q ≤ 99
  wn : ∀ q j, win r q j = 0 ∨ win r q j = 1
  l4 : ∀ q (h : q < r.r.length), r.r[q].length = 4
theorem game_ok {r : GameD} (h : gameB r = true) : ∃ X Y, GameOk r X Y := by
  unfold gameB bsizeB at h
  simp only [Bool.and_eq_true, inB_iff, beq_iff_eq, List.all_eq_true] at h
  obtain ⟨⟨hx, hy⟩, e1, e2, hp, hr, -⟩ := h
  obtain ⟨X, eX⟩ := Int.eq_ofNat_of_zero_le (show 0 ≤ r.x by omega)
  obtain ⟨Y, eY⟩ := Int.eq_ofNat_of_zero_le (show 0 ≤ r.y by omega)
  have hm : ((X * Y : Nat) : Int) = r.x * r.y := by rw [eX, eY]; simp
  refine ⟨X, Y, eX, eY, by omega, by omega, by omega, by omega, fun q => ?_, fun q j => ?_, fun q hq => ?_⟩
  · unfold wgt
    by_cases hq : q < r.p.length
    · have := hp _ (List.getElem_mem hq)
      simp [List.getD, hq]
      omega
    · simp [List.getD, Nat.le_of_not_lt hq]
  · unfold win
    by_cases hq : q < r.r.length
    · have hb := hr _ (List.getElem_mem hq)
      unfold bitsB at hb
      simp only [Bool.and_eq_true, List.all_eq_true, inB_iff] at hb
      by_cases hj : j < r.r[q].length
      · have := hb.2 _ (List.getElem_mem hj)
        simp [List.getD, hq, hj]
        omega
      · left
        simp [List.getD, hq, Nat.le_of_not_lt hj]
    · left
      simp [List.getD, Nat.le_of_not_lt hq]
  · have hb := hr _ (List.getElem_mem hq)
    unfold bitsB at hb
    simp only [Bool.and_eq_true, beq_iff_eq] at hb
    have := hb.1
    omega
theorem GameOk.won {r : GameD} {X Y : Nat} (g : GameOk r X Y) (x y a b : Nat) : 0 ≤ wonF r Y x y a b ∧ wonF r Y x y a b ≤ 99 := by
  unfold wonF
  have h1 := g.wg (x * Y + y)
  rcases g.wn (x * Y + y) (2 * a + b) with h | h <;> rw [h] <;> omega
theorem GameOk.sc {r : GameD} {X Y : Nat} (g : GameOk r X Y) (c s y bit b : Nat) : ∀ n, 0 ≤ sc r Y c s y bit b n ∧ sc r Y c s y bit b n ≤ 99 * n
  | 0 => by simp [Proofs.Ytpieaeokbblflaa.sc]
  | n + 1 => by
    have h1 := g.sc c s y bit b n
    have h2 := g.won n y (nb n c) b
    unfold Proofs.Ytpieaeokbblflaa.sc
    split <;> omega
theorem GameOk.mx {r : GameD} {X Y : Nat} (g : GameOk r X Y) (c s y bit : Nat) : 0 ≤ mx r X Y c s y bit ∧ mx r X Y c s y bit ≤ 297 := by
  have h1 := g.sc c s y bit 0 X
  have h2 := g.sc c s y bit 1 X
  have h3 := g.bx
  unfold Proofs.Ytpieaeokbblflaa.mx
  omega
theorem GameOk.sumY {r : GameD} {X Y : Nat} (g : GameOk r X Y) (c s : Nat) : ∀ n, 0 ≤ sumY r X Y c s n ∧ sumY r X Y c s n ≤ 594 * n
  | 0 => by simp [Proofs.Ytpieaeokbblflaa.sumY]
  | n + 1 => by
    have h1 := g.sumY c s n
    have h2 := g.mx c s n 0
    have h3 := g.mx c s n 1
    unfold Proofs.Ytpieaeokbblflaa.sumY
    omega
theorem GameOk.idx {r : GameD} {X Y : Nat} (g : GameOk r X Y) {x y : Nat} (hx : x < X) (hy : y < Y) : x * Y + y < X * Y ∧ X * Y ≤ 9 ∧ x * Y ≤ 6 := by
  have h1 := g.bx
  have h2 := g.bY
  have hX : X = 1 ∨ X = 2 ∨ X = 3 := by omega
  have hx3 : x = 0 ∨ x = 1 ∨ x = 2 := by omega
  rcases hX with rfl | rfl | rfl <;> rcases hx3 with rfl | rfl | rfl <;> omega

set_option maxRecDepth 100000 in
set_option maxHeartbeats 4000000 in
theorem c_l4Won (v : Value) (r : GameD) (X Y x y a b : Nat) (w : World) (h : GameR w v r) (g : GameOk r X Y) (hx : x < X) (hy : y < Y) (ha : a ≤ 1) (hb : b ≤ 1) :
    Calls Try.prog 93 #[v, .int .i64 x, .int .i64 y, .int .i64 a, .int .i64 b] w fun e w' => e = .returned (.int .i64 (wonF r Y x y a b)) ∧ Below w.heap.size w w' := by
  obtain ⟨v2, v3, rfl, hp, hr⟩ := id h
  obtain ⟨a2, k2, rfl, l2, -⟩ := hp.out
  obtain ⟨a3, k3, rfl, l3⟩ := hr.out
  have hA := (Below.refl w.heap.size w).alloc (Nat.le_refl _) (.cells #[.int .i64 r.x, .int .i64 r.y, .slice a2 r.p.length k2, .slice a3 r.r.length k3] 46)
  have pB : (w.alloc (.cells #[.int .i64 r.x, .int .i64 r.y, .slice a2 r.p.length k2, .slice a3 r.r.length k3] 46)).heap[w.heap.size]? = some (.cells #[.int .i64 r.x, .int .i64 r.y, .slice a2 r.p.length k2, .slice a3 r.r.length k3] 46 (0, 0)) := heap_alloc_at rfl
  obtain ⟨i1, i2, i3⟩ := g.idx hx hy
  have lp := g.lp
  have lr := g.lr
  have bY := g.bY
  have bX := g.bx
  have hm : ((x : Int) * (Y : Int)) = ((x * Y : Nat) : Int) := by simp
  have hVV : wonF r Y x y a b = wgt r (x * Y + y) * win r (x * Y + y) (2 * a + b) := rfl
  generalize x * Y = P at i1 i3 hm hVV
  generalize X * Y = N at i1 i2 lp lr
  rw [g.hx, g.hy, lp, lr] at pB hA
  obtain ⟨⟨z0, z1, z2, z3⟩, -⟩ := blk4 pB
  have hqp : P + y < r.p.length := by omega
  have hqr : P + y < r.r.length := by omega
  obtain ⟨bl, off, rfl, hb1, hcell⟩ := (hp.below hA).at (P + y) hqp
  obtain ⟨bl2, off2, a5, c5, rfl, hb2, hcell2, hi2⟩ := (hr.below hA).at (P + y) hqr
  have h4 := g.l4 (P + y) hqr
  have hj : 2 * a + b < r.r[P + y].length := by omega
  obtain ⟨bl3, off3, rfl, hb3, hcell3⟩ := hi2.at (2 * a + b) hj
  rw [h4] at hcell2
  have e1 : r.p[P + y] = wgt r (P + y) := by simp [wgt, List.getD, hqp]
  have e2 : r.r[P + y][2 * a + b] = win r (P + y) (2 * a + b) := by simp [win, List.getD, hqr, hj]
  rw [e1] at hcell
  rw [e2] at hcell3
  have hw1 := g.wg (P + y)
  have hw2 : 0 ≤ win r (P + y) (2 * a + b) ∧ win r (P + y) (2 * a + b) ≤ 1 := by rcases g.wn (P + y) (2 * a + b) with h | h <;> rw [h] <;> omega
  have hw3 : 0 ≤ wgt r (P + y) * win r (P + y) (2 * a + b) ∧ wgt r (P + y) * win r (P + y) (2 * a + b) ≤ 99 := by rcases g.wn (P + y) (2 * a + b) with h | h <;> rw [h] <;> omega
  rw [hVV]
  obtain ⟨u1, hu1⟩ : ∃ z, z = wgt r (P + y) := ⟨_, rfl⟩
  obtain ⟨u2, hu2⟩ : ∃ z, z = win r (P + y) (2 * a + b) := ⟨_, rfl⟩
  rw [← hu1, ← hu2] at hw3 ⊢
  rw [← hu1] at hcell hw1
  rw [← hu2] at hcell3 hw2
  rw [g.hx, g.hy, lp, lr]
  clear e1 e2 hVV hu1 hu2 h4 hj hi2 hqp hqr
  have hdq : decide (((P : Int) + (y : Int)) < (N : Int)) = true := by simp; omega
  have hdj : decide ((2 * (a : Int) + (b : Int)) < 4) = true := by simp; omega
  replace lp := Lib.hid lp
  replace lr := Lib.hid lr
  replace g := Lib.hid g
  go_enter Try.func93, Try.ntmps93
  go_wp2_with fail
  go_quiet (fail)
  go_wp2
  go_ret
  exact ⟨rfl, below_drewN hA _⟩

theorem c_l1MostG (a b : Int) (w : World) : Calls Try.prog 94 #[.int .i64 a, .int .i64 b] w fun e w' => e = .returned (.int .i64 (max a b)) ∧ w = w' := by
  by_cases h : b < a
  all_goals
    go_enter Try.func94, Try.ntmps94
    go_wp2
    go_ret
    exact ⟨by rw [show max a b = _ by first | exact Int.max_eq_left (by omega) | exact Int.max_eq_right (by omega)]; rfl, rfl⟩
theorem shl_oneG (n : Nat) (h : n ≤ 3) : IntKind.i64.wrap ((2 : Int) ^ n) = ((2 ^ n : Nat) : Int) ∧ 2 ^ n ≤ 8 ∧ 1 ≤ 2 ^ n := by
  have : ∀ n : Nat, n < 4 → IntKind.i64.wrap ((2 : Int) ^ n) = ((2 ^ n : Nat) : Int) ∧ 2 ^ n ≤ 8 ∧ 1 ≤ 2 ^ n := by decide +kernel
  exact this n (by omega)

theorem blk2G {w : World} {b : Nat} {v1 v2 : Value} {t : TypeId} (h : w.heap[b]? = some (.cells #[v1, v2] t (0, 0))) :
    w.cell? ⟨b, 0, none⟩ = some v1 ∧ w.cell? ⟨b, 1, none⟩ = some v2 ∧ w.frozen? ⟨b, 0, none⟩ = false ∧ w.frozen? ⟨b, 1, none⟩ = false := by
  refine ⟨?_, ?_, ?_, ?_⟩ <;> simp [World.cell?, World.frozen?, h]
/-- some numbers of the call's own in a block -/
def TwoC (w : World) (sb n : Nat) (S : Nat → Int) : Prop := sb < w.heap.size ∧ ∀ j, j < n → w.cell? ⟨sb, j, none⟩ = some (.int .i64 (S j)) ∧ w.frozen? ⟨sb, j, none⟩ = false
theorem TwoC.below {w w' : World} {sb n : Nat} {S : Nat → Int} (h : TwoC w sb n S) (hb : Below w.heap.size w w') : TwoC w' sb n S := by
  obtain ⟨hc, hf⟩ := bcell hb
  refine ⟨Nat.lt_of_lt_of_le h.1 hb.size, fun j hj => ?_⟩
  rw [hc _ _ h.1, hf _ _ h.1]
  exact h.2 j hj
theorem TwoC.put {w : World} {sb n : Nat} {S : Nat → Int} (h : TwoC w sb n S) {b : Nat} (hb : b < n) (y : Int) : TwoC (w.setCell ⟨sb, b, none⟩ (.int .i64 y)) sb n (fun j => if j = b then y else S j) := by
  refine ⟨by simpa [World.setCell] using h.1, fun j hj => ?_⟩
  rw [World.frozen?_setCell]
  refine ⟨?_, (h.2 j hj).2⟩
  by_cases e : j = b
  · subst e
    simp only [if_pos]
    first | exact World.cell?_setCell_same _ _ _ (h.2 j hj).1 | exact World.cell?_setCell_same _ _ _ _ (h.2 j hj).1
  · simp only [if_neg e]
    have hne : (⟨sb, b, none⟩ : Addr) ≠ ⟨sb, j, none⟩ := fun e2 => e (congrArg Addr.off e2).symm
    have := (h.2 j hj).1
    first | rw [World.cell?_setCell_other _ _ _ _ hne] | rw [World.cell?_setCell_other _ _ _ hne]
    exact this
theorem TwoC.cong {w : World} {sb n : Nat} {S T : Nat → Int} (h : TwoC w sb n S) (e : ∀ j, j < n → S j = T j) : TwoC w sb n T := ⟨h.1, fun j hj => by rw [← e j hj]; exact h.2 j hj⟩
theorem sc_no {r : GameD} {Y c s y bit b n : Nat} (h : nb n s ≠ bit) : sc r Y c s y bit b (n + 1) = sc r Y c s y bit b n := by
  conv => lhs; unfold sc
  rw [if_neg h]; simp
theorem sc_yes {r : GameD} {Y c s y bit b n : Nat} (h : nb n s = bit) : sc r Y c s y bit b (n + 1) = sc r Y c s y bit b n + wonF r Y n y (nb n c) b := by
  conv => lhs; unfold sc
  rw [if_pos h]

set_option maxRecDepth 100000 in
set_option maxHeartbeats 8000000 in
theorem c_spec_TalkValue (v : Value) (r : GameD) (w : World) (h : GameR w v r) :
    Calls Try.prog 31 #[v] w fun e w' => e = .returned (.tuple #[.int .i64 (tvV r), .bool (gameB r)]) ∧ Below w.heap.size w w' := by
  have h2 := h
  obtain ⟨v2, v3, rfl, hp, hr⟩ := id h
  obtain ⟨a2, k2, rfl, l2, -⟩ := hp.out
  obtain ⟨a3, k3, rfl, l3⟩ := hr.out
  have hA := (Below.refl w.heap.size w).alloc (Nat.le_refl _) (.cells #[.int .i64 r.x, .int .i64 r.y, .slice a2 r.p.length k2, .slice a3 r.r.length k3] 46)
  have pB : (w.alloc (.cells #[.int .i64 r.x, .int .i64 r.y, .slice a2 r.p.length k2, .slice a3 r.r.length k3] 46)).heap[w.heap.size]? = some (.cells #[.int .i64 r.x, .int .i64 r.y, .slice a2 r.p.length k2, .slice a3 r.r.length k3] 46 (0, 0)) := heap_alloc_at rfl
  replace h2 := h2.below hA
  obtain ⟨⟨z0, z1, z2, z3⟩, -⟩ := blk4 pB
  cases hg : gameB r
  · have hF : Hid (tvV r = 0) := Lib.hid (by simp [tvV, hg])
    replace hg := Lib.hid hg
    go_enter Try.func31, Try.ntmps31
    go_wp2_with fail
    refine (c_l4Game _ r _ h2).mono ?_
    rintro e w2 ⟨rfl, hB⟩
    rw [hg.out]
    go_wp2
    go_ret2
    exact ⟨by rw [hF.out]; rfl, bstep hA hB⟩
  obtain ⟨X, Y, gk⟩ := game_ok hg
  have bX := gk.bx
  have bY := gk.bY
  obtain ⟨eN, hN1, hN2⟩ := shl_oneG X bX.2
  obtain ⟨Z, hZ⟩ : ∃ z, z = 2 ^ X := ⟨_, rfl⟩
  have hV : Hid (tvV r = bstT r X Y Z (Z * Z)) := Lib.hid (by rw [hZ]; simp [tvV, hg, gk.hx, gk.hy])
  rw [← hZ] at eN hN1 hN2
  rw [gk.hx, gk.hy] at h h2 hA pB z0 z1 z2 z3 ⊢
  replace hg := Lib.hid hg
  replace gk := Lib.hid gk
  replace hZ := Lib.hid hZ
  go_enter Try.func31, Try.ntmps31
  go_wp2_with fail
  refine (c_l4Game _ r _ h2).mono ?_
  clear z0 z1 z2 z3
  rintro e w1 ⟨rfl, hB⟩
  rw [hg.out]
  replace hA := bstep hA hB
  replace pB := blk_later hB pB
  have hs1 := (Array.getElem?_eq_some_iff.1 pB).1
  clear hB h2
  have hB := Below.refl (w.heap.size + 1) w1
  go_wp2_with fail
  go_loopw [4, 5] (fun m a wr => ∃ c : Nat, c ≤ Z ∧ a = .int .i64 c ∧ m = .int .i64 (bstT r X Y Z (c * Z)) ∧ Below (w.heap.size + 1) w1 wr) (fun _ a _ => Z - (intOf a).toNat)
  case atStart => exact ⟨0, by omega, rfl, by rw [Nat.zero_mul]; rfl, hB⟩
  case round =>
    clear hB
    obtain ⟨c, hc, rfl, rfl, hB⟩ := hrel
    obtain ⟨⟨z0, z1, z2, z3⟩, -⟩ := blk4 ((hB.block _ (by omega)).trans pB)
    have hsz := hB.size
    by_cases hlc : c < Z
    · have hdc : decide ((c : Int) < (Z : Int)) = true := by simp; omega
      go_wp2_with fail
      clear z0 z1 z2 z3
      go_loopw [4, 6] (fun m a wr => ∃ s : Nat, s ≤ Z ∧ a = .int .i64 s ∧ m = .int .i64 (bstT r X Y Z (c * Z + s)) ∧ Below (w.heap.size + 1) w1 wr) (fun _ a _ => Z - (intOf a).toNat)
      case atStart => exact ⟨0, by omega, rfl, rfl, hB⟩
      case round =>
        clear hB hsz
        obtain ⟨s, hs, rfl, rfl, hB⟩ := hrel
        obtain ⟨⟨z0, z1, z2, z3⟩, -⟩ := blk4 ((hB.block _ (by omega)).trans pB)
        have hsz := hB.size
        by_cases hls : s < Z
        · have hds : decide ((s : Int) < (Z : Int)) = true := by simp; omega
          have hnx : Hid (bstT r X Y Z (c * Z + (s + 1)) = max (bstT r X Y Z (c * Z + s)) (sumY r X Y c s Y)) := Lib.hid (by
            rw [show c * Z + (s + 1) = c * Z + s + 1 by omega]
            conv => lhs; unfold bstT
            rw [show (c * Z + s) / Z = c by rw [Nat.mul_comm, Nat.mul_add_div (by omega), Nat.div_eq_of_lt hls]; omega, show (c * Z + s) % Z = s by rw [Nat.mul_comm, Nat.mul_add_mod, Nat.mod_eq_of_lt hls]])
          obtain ⟨be, hbe⟩ : ∃ z, z = bstT r X Y Z (c * Z + s) := ⟨_, rfl⟩
          rw [← hbe] at hnx ⊢
          clear hbe
          go_wp2_with fail
          clear z0 z1 z2 z3
          go_loopw [7, 8] (fun m a wr => ∃ y : Nat, y ≤ Y ∧ a = .int .i64 y ∧ m = .int .i64 (sumY r X Y c s y) ∧ Below (w.heap.size + 1) w1 wr) (fun _ a _ => Y - (intOf a).toNat)
          case atStart => exact ⟨0, by omega, rfl, rfl, hB⟩
          case round =>
            clear hB hsz
            obtain ⟨y, hy, rfl, rfl, hB⟩ := hrel
            obtain ⟨⟨z0, z1, z2, z3⟩, -⟩ := blk4 ((hB.block _ (by omega)).trans pB)
            have hsz := hB.size
            have hbs := gk.out.sumY c s y
            by_cases hly : y < Y
            · have hdy : decide ((y : Int) < (Y : Int)) = true := by simp; omega
              go_wp2_with fail
              clear z0 z1 z2 z3
              go_loopw [7, 9] (fun m a wr => ∃ bit : Nat, bit ≤ 2 ∧ a = .int .i64 bit ∧ m = .int .i64 (sumY r X Y c s y + parS r X Y c s y bit) ∧ Below (w.heap.size + 1) w1 wr) (fun _ a _ => 2 - (intOf a).toNat)
              case atStart => exact ⟨0, by omega, rfl, by simp [parS], hB⟩
              case round =>
                clear hB hsz
                obtain ⟨bit, hbit, rfl, rfl, hB⟩ := hrel
                have hsz := hB.size
                by_cases hlb : bit < 2
                · have hdb : decide ((bit : Int) < 2) = true := by simp; omega
                  have hps : Hid (sumY r X Y c s y + parS r X Y c s y (bit + 1) = sumY r X Y c s y + parS r X Y c s y bit + mx r X Y c s y bit) := Lib.hid (by
                    have hb3 : bit = 0 ∨ bit = 1 := by omega
                    rcases hb3 with rfl | rfl <;> simp [parS] <;> omega)
                  have hb2 : 0 ≤ sumY r X Y c s y + parS r X Y c s y bit ∧ sumY r X Y c s y + parS r X Y c s y bit ≤ 5000 := by
                    have m0 := gk.out.mx c s y 0
                    have hb3 : bit = 0 ∨ bit = 1 := by omega
                    rcases hb3 with rfl | rfl <;> simp [parS] <;> omega
                  obtain ⟨su, hsu⟩ : ∃ z, z = sumY r X Y c s y + parS r X Y c s y bit := ⟨_, rfl⟩
                  rw [← hsu] at hps hb2 ⊢
                  clear hsu
                  have hbm := gk.out.mx c s y bit
                  have hT : TwoC (wr.alloc (.cells #[.int .i64 0, .int .i64 0] 3)) wr.heap.size 2 (fun j => sc r Y c s y bit j 0) := by
                    refine ⟨by simp, fun j hj => ?_⟩
                    have hj2 : j = 0 ∨ j = 1 := by omega
                    have hb := heap_alloc_at (w := wr) (o := .cells #[.int .i64 0, .int .i64 0] 3) rfl
                    obtain ⟨c0, c1, f0, f1⟩ := blk2G hb
                    rcases hj2 with rfl | rfl
                    · exact ⟨c0, f0⟩
                    · exact ⟨c1, f1⟩
                  have hB2 := hB.alloc (by omega) (.cells #[.int .i64 0, .int .i64 0] 3)
                  obtain ⟨sb, hsb⟩ : ∃ z, z = wr.heap.size := ⟨_, rfl⟩
                  replace hT := Lib.hid hT
                  go_wp2_with fail
                  obtain ⟨wn, hwn⟩ : ∃ z, z = wr.alloc (.cells #[.int .i64 0, .int .i64 0] 3) := ⟨_, rfl⟩
                  rw [← hwn] at hT hB2 ⊢
                  have hsbw : w.heap.size + 1 ≤ sb := by omega
                  rw [← hsb] at hT ⊢
                  clear hwn hsb hB hsz
                  go_loopw [11] (fun a wr => ∃ x : Nat, x ≤ X ∧ a = .int .i64 x ∧ Hid (TwoC wr sb 2 (fun j => sc r Y c s y bit j x)) ∧ Below (w.heap.size + 1) w1 wr) (fun a _ => X - (intOf a).toNat)
                  case atStart => exact ⟨0, by omega, rfl, hT, hB2⟩
                  case round =>
                    clear hT hB2
                    obtain ⟨x, hx, rfl, hT, hB⟩ := hrel
                    have hsz := hB.size
                    obtain ⟨⟨z0, z1, z2, z3⟩, -⟩ := blk4 ((hB.block _ (by omega)).trans pB)
                    by_cases hlx : x < X
                    · have hdx : decide ((x : Int) < (X : Int)) = true := by simp; omega
                      go_wp2_with fail
                      clear z0 z1 z2 z3
                      obtain ⟨ta, hta⟩ : ∃ z, z = nb x s := ⟨_, rfl⟩
                      obtain ⟨ca, hca0⟩ : ∃ z, z = nb x c := ⟨_, rfl⟩
                      have hca : ca ≤ 1 := hca0 ▸ nb_le _ _
                      have lta : ta ≤ 1 := hta ▸ nb_le _ _
                      have ea : bits .and .i64 ((s : Int) / 2 ^ x) 1 = (ta : Int) := by rw [hta]; exact nb_and s x (by omega)
                      have eb : bits .and .i64 ((c : Int) / 2 ^ x) 1 = (ca : Int) := by rw [hca0]; exact nb_and c x (by omega)
                      replace hca0 := Lib.hid hca0
                      cases hq : ((ta : Int) == (bit : Int))
                      · have hT2 : Hid (TwoC wr sb 2 (fun j => sc r Y c s y bit j (x + 1))) := Lib.hid (hT.out.cong fun j _ => (sc_no (by rw [← hta]; have := beq_eq_false_iff_ne.1 hq; omega)).symm)
                        clear hT
                        go_loop [12] (fun a => a = .int .i64 0) (fun _ => 0)
                        case atStart => rfl
                        case round =>
                          obtain rfl := hrel
                          go_wp2
                          go_roundw
                          case rel => first | exact ⟨x + 1, by omega, by go_num, hT2, hB⟩ | ((repeat apply Exists.intro); exact ⟨⟨x + 1, by omega, rfl, hT2, hB⟩, rfl⟩)
                          case measure => simp [intOf]; omega
                      · have hbt : nb x s = bit := by rw [← hta]; have := eq_of_beq hq; omega
                        replace hta := Lib.hid hta
                        go_loopw [12] (fun a wr => ∃ b : Nat, b ≤ 2 ∧ a = .int .i64 b ∧ Hid (TwoC wr sb 2 (fun j => if j < b then sc r Y c s y bit j (x + 1) else sc r Y c s y bit j x)) ∧ Below (w.heap.size + 1) w1 wr) (fun a _ => 2 - (intOf a).toNat)
                        case atStart => exact ⟨0, by omega, rfl, Lib.hid (hT.out.cong fun j _ => by simp), hB⟩
                        case round =>
                          clear hT hB hsz
                          obtain ⟨b, hb, rfl, hT, hB⟩ := hrel
                          have hsz := hB.size
                          obtain ⟨⟨z0, z1, z2, z3⟩, -⟩ := blk4 ((hB.block _ (by omega)).trans pB)
                          by_cases hlt : b < 2
                          · have hdt : decide ((b : Int) < 2) = true := by simp; omega
                            have hbv := gk.out.sc c s y bit b x
                            have hbw0 := gk.out.won x y ca b
                            obtain ⟨d0, f0⟩ := hT.out.2 b hlt
                            simp only [Nat.lt_irrefl, if_false] at d0
                            have hst : Hid (sc r Y c s y bit b (x + 1) = sc r Y c s y bit b x + wonF r Y x y ca b) := Lib.hid (by rw [hca0.out]; exact sc_yes hbt)
                            obtain ⟨v0, hv0⟩ : ∃ z, z = sc r Y c s y bit b x := ⟨_, rfl⟩
                            obtain ⟨wv, hwv⟩ : ∃ z, z = wonF r Y x y ca b := ⟨_, rfl⟩
                            rw [← hv0] at d0 hbv hst
                            rw [← hwv] at hbw0 hst
                            replace hv0 := Lib.hid hv0
                            have kW : Hid (∀ w', Below w.heap.size w w' → Calls Try.prog 93 #[.agg #[.int .i64 (X : Int), .int .i64 (Y : Int), .slice a2 r.p.length k2, .slice a3 r.r.length k3], .int .i64 x, .int .i64 y, .int .i64 ca, .int .i64 b] w' fun e w'' => e = .returned (.int .i64 wv) ∧ Below w'.heap.size w' w'') := Lib.hid (fun w' hw' => by rw [hwv]; exact c_l4Won _ r X Y x y ca b w' (h.below hw') gk.out hlx hly hca (by omega))
                            replace hwv := Lib.hid hwv
                            have hsbl := hT.out.1
                            have halld := hA.trans (hB.mono (by omega))
                            go_wp2_with fail
                            clear hq hbt ea
                            refine wp_region_rk (by kernel_rfl) [none, none, none, none, none, none, none, none, none, none, none, none, none, none, none, none, none, none, none, none, none, none, none, none, none, none, none, none, none, none, none, none, none, none, none, none, none, none, none, none, none, none, none, none, none, none, none, none, none, none, none, none, none, none, none, none, none, none, none, some 0, some 1, some 2, some 3, some 4, some 5, some 6, some 7, some 8, some 9, some 10, some 11, some 12, some 13, some 14, some 15, some 16] 17 (by kernel_rfl) (by kernel_rfl) (by kernel_rfl) _ rfl w.heap.size [rkV (.slice (some ⟨sb, 0, none⟩) 2 2), rkV (.int .i64 (b : Int)), rkV (.slice (some ⟨sb, 0, none⟩) 2 2), rkV (.int .i64 (b : Int)), rkV (.pointer (some ⟨sb, b, none⟩)), rkV (.int .i64 v0), rkV (.agg #[.int .i64 (X : Int), .int .i64 (Y : Int), .slice a2 r.p.length k2, .slice a3 r.r.length k3]), rkV (.int .i64 (x : Int)), rkV (.int .i64 (y : Int)), rkV (.int .i64 (c : Int)), rkV (.int .i64 (x : Int)), rkV (.int .i64 ((c : Int) / 2 ^ x)), rkV (.int .i64 (ca : Int)), rkV (.int .i64 (b : Int)), rkV (.int .i64 wv), rkV (.int .i64 (v0 + wv)), rkV (.pointer (some ⟨sb, b, none⟩))] _ rfl (by kernel_rfl) (by simp) ?_ ?_
                            · intro i o ho hi u g ww hbw hd
                              have hall : Below w.heap.size w ww := halld.trans (hbw.mono (by omega))
                              have hlow : w.heap.size ≤ ww.heap.size := hall.size
                              obtain ⟨hcl, hfr⟩ := bcell hbw
                              have y_z0 := (hcl _ _ (by omega)).trans z0
                              have y_z1 := (hcl _ _ (by omega)).trans z1
                              have y_z2 := (hcl _ _ (by omega)).trans z2
                              have y_z3 := (hcl _ _ (by omega)).trans z3
                              have y_d0 := (hcl _ _ (by omega)).trans d0
                              clear hcl hfr
                              rcases i with _ | _ | _ | _ | _ | _ | _ | _ | _ | _ | _ | _ | _ | _ | _ | _ | _ | _ | i
                              all_goals try obtain rfl := Option.some.inj ho
                              all_goals try simp only [putAll, fillL]
                              · go_wp2
                                exact ⟨_, rfl, kept0 (Below.refl _ _), rfl⟩
                              · go_wp2
                                exact ⟨_, rfl, kept0 (Below.refl _ _), rfl⟩
                              · go_wp2
                                exact ⟨_, rfl, kept0 (Below.refl _ _), rfl⟩
                              · go_wp2
                                exact ⟨_, rfl, kept0 (Below.refl _ _), rfl⟩
                              · have e2 : u 2 = .slice (some ⟨sb, 0, none⟩) 2 2 := hd 2 (by decide)
                                rw [e2]
                                have e3 : u 3 = .int .i64 (b : Int) := hd 3 (by decide)
                                rw [e3]
                                go_wp2
                                exact ⟨_, by simp only [putAll, fillL, e2, e3] <;> rfl, kept0 (Below.refl _ _), rfl⟩
                              · have e4 : u 4 = .pointer (some ⟨sb, b, none⟩) := hd 4 (by decide)
                                rw [e4]
                                go_wp2
                                exact ⟨_, by simp only [putAll, fillL, e4] <;> rfl, kept0 (Below.refl _ _), rfl⟩
                              · go_wp2
                                exact ⟨_, rfl, kept0 (Below.refl _ _), rfl⟩
                              · go_wp2
                                exact ⟨_, rfl, kept0 (Below.refl _ _), rfl⟩
                              · go_wp2
                                exact ⟨_, rfl, kept0 (Below.refl _ _), rfl⟩
                              · go_wp2
                                exact ⟨_, rfl, kept0 (Below.refl _ _), rfl⟩
                              · go_wp2
                                exact ⟨_, rfl, kept0 (Below.refl _ _), rfl⟩
                              · have e9 : u 9 = .int .i64 (c : Int) := hd 9 (by decide)
                                rw [e9]
                                have e10 : u 10 = .int .i64 (x : Int) := hd 10 (by decide)
                                rw [e10]
                                go_wp2
                                exact ⟨_, by simp only [putAll, fillL, e9, e10] <;> rfl, kept0 (Below.refl _ _), rfl⟩
                              · have e11 : u 11 = .int .i64 ((c : Int) / 2 ^ x) := hd 11 (by decide)
                                rw [e11]
                                go_wp2
                                exact ⟨_, by simp only [putAll, fillL, e11] <;> rfl, kept0 (Below.refl _ _), rfl⟩
                              · go_wp2
                                exact ⟨_, rfl, kept0 (Below.refl _ _), rfl⟩
                              · have e6 : u 6 = .agg #[.int .i64 (X : Int), .int .i64 (Y : Int), .slice a2 r.p.length k2, .slice a3 r.r.length k3] := hd 6 (by decide)
                                rw [e6]
                                have e7 : u 7 = .int .i64 (x : Int) := hd 7 (by decide)
                                rw [e7]
                                have e8 : u 8 = .int .i64 (y : Int) := hd 8 (by decide)
                                rw [e8]
                                have e12 : u 12 = .int .i64 (ca : Int) := hd 12 (by decide)
                                rw [e12]
                                have e13 : u 13 = .int .i64 (b : Int) := hd 13 (by decide)
                                rw [e13]
                                go_wp2_with fail
                                refine (kW.out _ hall).mono ?_
                                rintro e wn ⟨rfl, hbn⟩
                                go_wp2
                                exact ⟨_, by simp only [putAll, fillL, e6, e7, e8, e12, e13] <;> rfl, kept0 hbn, rfl⟩
                              · have e5 : u 5 = .int .i64 v0 := hd 5 (by decide)
                                rw [e5]
                                have e14 : u 14 = .int .i64 wv := hd 14 (by decide)
                                rw [e14]
                                go_wp2
                                exact ⟨_, by simp only [putAll, fillL, e5, e14] <;> rfl, kept0 (Below.refl _ _), rfl⟩
                              · have e0 : u 0 = .slice (some ⟨sb, 0, none⟩) 2 2 := hd 0 (by decide)
                                rw [e0]
                                have e1 : u 1 = .int .i64 (b : Int) := hd 1 (by decide)
                                rw [e1]
                                go_wp2
                                exact ⟨_, by simp only [putAll, fillL, e0, e1] <;> rfl, kept0 (Below.refl _ _), rfl⟩
                              · exact absurd rfl hi
                              · simp at ho
                            · intro u gg w5 hbw hR hAp
                              have e15 : u 15 = .int .i64 (v0 + wv) := hR 15 (by decide) (by decide)
                              have e16 : u 16 = .pointer (some ⟨sb, b, none⟩) := hR 16 (by decide) (by decide)
                              have hT5 := hT.out.below hbw
                              have hB5 := hB.trans (hbw.mono (by omega))
                              obtain ⟨d5, f5⟩ := hT5.2 b hlt
                              have hT6 : Hid (TwoC (w5.setCell ⟨sb, b, none⟩ (.int .i64 (v0 + wv))) sb 2 (fun j => if j < b + 1 then sc r Y c s y bit j (x + 1) else sc r Y c s y bit j x)) := Lib.hid ((hT5.put hlt (v0 + wv)).cong fun j _ => by
                                by_cases e : j = b
                                · subst e
                                  rw [if_pos rfl, if_pos (by omega), hst.out]
                                · rw [if_neg e]
                                  by_cases e2 : j < b
                                  · rw [if_pos e2, if_pos (by omega)]
                                  · rw [if_neg e2, if_neg (by omega)])
                              have hB6 := hB5.setCell (p := ⟨sb, b, none⟩) (by simp; omega) (.int .i64 (v0 + wv))
                              clear hR hAp hT hT5 hB hB5 hbw halld d0 f0 z0 z1 z2 z3
                              simp only [putAll, fillL]
                              rw [e15, e16]
                              clear e15 e16
                              go_wp2
                              go_roundw
                              case rel => first | exact ⟨b + 1, by omega, by go_num, hT6, hB6⟩ | ((repeat apply Exists.intro); exact ⟨⟨b + 1, by omega, rfl, hT6, hB6⟩, rfl⟩)
                              case measure => simp [intOf]; omega
                          · obtain rfl : b = 2 := by omega
                            have hT2 : Hid (TwoC wr sb 2 (fun j => sc r Y c s y bit j (x + 1))) := Lib.hid (hT.out.cong fun j hj => by simp only [if_pos hj])
                            clear hT
                            go_wp2
                            go_roundw
                            case rel => first | exact ⟨x + 1, by omega, by go_num, hT2, hB⟩ | ((repeat apply Exists.intro); exact ⟨⟨x + 1, by omega, rfl, hT2, hB⟩, rfl⟩)
                            case measure => simp [intOf]; omega
                    · obtain rfl : X = x := by omega
                      have d0 : wr.cell? ⟨sb, 0, none⟩ = some (.int .i64 (sc r Y c s y bit 0 X)) := (hT.out.2 0 (by decide)).1
                      have d1 : wr.cell? ⟨sb, 1, none⟩ = some (.int .i64 (sc r Y c s y bit 1 X)) := (hT.out.2 1 (by decide)).1
                      obtain ⟨v0, hv0⟩ : ∃ z, z = sc r Y c s y bit 0 X := ⟨_, rfl⟩
                      obtain ⟨v1, hv1⟩ : ∃ z, z = sc r Y c s y bit 1 X := ⟨_, rfl⟩
                      rw [← hv0] at d0
                      rw [← hv1] at d1
                      have hmx : mx r X Y c s y bit = max v0 v1 := by rw [hv0, hv1]; rfl
                      rw [hmx] at hbm hps
                      have hsbl := hT.out.1
                      clear hmx hv0 hv1 hT
                      have halld := hA.trans (hB.mono (by omega))
                      go_wp2_with fail
                      refine wp_region_rkt (by kernel_rfl) [none, none, none, none, none, none, none, some 9, none, none, none, none, none, none, none, none, none, none, none, none, none, none, none, none, none, none, none, none, none, none, none, none, none, none, none, none, none, none, none, none, none, none, none, none, none, none, none, none, none, none, none, none, none, none, none, none, none, none, none, none, none, none, none, none, none, none, none, none, none, none, none, none, none, none, none, none, some 0, some 1, some 2, some 3, some 4, some 5, some 6, some 7, some 8] 8 9 (by kernel_rfl) (by kernel_rfl) (by kernel_rfl) _ _ rfl rfl 7 rfl w.heap.size [rkV (.int .i64 su), rkV (.slice (some ⟨sb, 0, none⟩) 2 2), rkV (.pointer (some ⟨sb, 0, none⟩)), rkV (.int .i64 v0), rkV (.slice (some ⟨sb, 0, none⟩) 2 2), rkV (.pointer (some ⟨sb, 1, none⟩)), rkV (.int .i64 v1), rkV (.int .i64 (max v0 v1))] _ rfl (by kernel_rfl) (by simp) ?_ ?_
                      · intro i o ho hi hi2 u g ww hbw hu2 hd
                        replace hu2 : u 9 = .int .i64 su := hu2
                        have hall : Below w.heap.size w ww := halld.trans (hbw.mono (by omega))
                        have hlow : w.heap.size ≤ ww.heap.size := hall.size
                        obtain ⟨hcl, hfr⟩ := bcell hbw
                        have y_d0 := (hcl _ _ (by omega)).trans d0
                        have y_d1 := (hcl _ _ (by omega)).trans d1
                        clear hcl hfr
                        rcases i with _ | _ | _ | _ | _ | _ | _ | _ | _ | _ | i
                        all_goals try obtain rfl := Option.some.inj ho
                        all_goals try simp only [putAll, fillL]
                        · rw [hu2]
                          go_wp2
                          exact ⟨_, by simp only [putAll, fillL, hu2] <;> rfl, kept0 (Below.refl _ _), rfl⟩
                        · go_wp2
                          exact ⟨_, by simp only [putAll, fillL, hu2] <;> rfl, kept0 (Below.refl _ _), rfl⟩
                        · have e1 : u 1 = .slice (some ⟨sb, 0, none⟩) 2 2 := hd 1 (by decide)
                          rw [e1]
                          go_wp2
                          exact ⟨_, by simp only [putAll, fillL, hu2, e1] <;> rfl, kept0 (Below.refl _ _), rfl⟩
                        · have e2 : u 2 = .pointer (some ⟨sb, 0, none⟩) := hd 2 (by decide)
                          rw [e2]
                          go_wp2
                          exact ⟨_, by simp only [putAll, fillL, hu2, e2] <;> rfl, kept0 (Below.refl _ _), rfl⟩
                        · go_wp2
                          exact ⟨_, by simp only [putAll, fillL, hu2] <;> rfl, kept0 (Below.refl _ _), rfl⟩
                        · have e4 : u 4 = .slice (some ⟨sb, 0, none⟩) 2 2 := hd 4 (by decide)
                          rw [e4]
                          go_wp2
                          exact ⟨_, by simp only [putAll, fillL, hu2, e4] <;> rfl, kept0 (Below.refl _ _), rfl⟩
                        · have e5 : u 5 = .pointer (some ⟨sb, 1, none⟩) := hd 5 (by decide)
                          rw [e5]
                          go_wp2
                          exact ⟨_, by simp only [putAll, fillL, hu2, e5] <;> rfl, kept0 (Below.refl _ _), rfl⟩
                        · have e3 : u 3 = .int .i64 v0 := hd 3 (by decide)
                          rw [e3]
                          have e6 : u 6 = .int .i64 v1 := hd 6 (by decide)
                          rw [e6]
                          go_wp2_with fail
                          refine (c_l1MostG _ _ _).mono ?_
                          rintro e _ ⟨rfl, rfl⟩
                          go_wp2
                          exact ⟨_, by simp only [putAll, fillL, hu2, e3, e6] <;> rfl, kept0 (Below.refl _ _), rfl⟩
                        · exact absurd rfl hi
                        · exact absurd rfl hi2
                        · simp at ho
                      · intro u gg w5 hbw hu2 hR hAp
                        have e0 : u 0 = .int .i64 su := hR 0 (by decide) (by decide) (by decide)
                        have e7 : u 7 = .int .i64 (max v0 v1) := hR 7 (by decide) (by decide) (by decide)
                        replace hu2 : u 9 = .int .i64 su := hu2
                        have hB5 := hB.trans (hbw.mono (by omega))
                        clear hR hAp hB hbw halld d0 d1 z0 z1 z2 z3
                        simp only [putAll, fillL]
                        rw [hu2, e0, e7]
                        clear hu2 e0 e7
                        go_wp2
                        go_roundw
                        case rel => first | exact ⟨bit + 1, by omega, by go_num, by rw [hps.out], hB5⟩ | ((repeat apply Exists.intro); exact ⟨⟨bit + 1, by omega, rfl, by rw [hps.out], hB5⟩, rfl⟩)
                        case measure => simp [intOf]; omega
                · obtain rfl : bit = 2 := by omega
                  have hps : Hid (sumY r X Y c s y + parS r X Y c s y 2 = sumY r X Y c s (y + 1)) := Lib.hid (by simp [parS, sumY])
                  go_wp2
                  go_roundw
                  case rel => first | exact ⟨y + 1, by omega, by go_num, by rw [hps.out], hB⟩ | ((repeat apply Exists.intro); exact ⟨⟨y + 1, by omega, rfl, by rw [hps.out], hB⟩, rfl⟩)
                  case measure => simp [intOf]; omega
            · obtain rfl : y = Y := by omega
              go_wp2_with fail
              refine (c_l1MostG _ _ _).mono ?_
              rintro e _ ⟨rfl, rfl⟩
              rw [← hnx.out]
              go_wp2
              go_roundw
              case rel => first | exact ⟨s + 1, by omega, by go_num, rfl, hB⟩ | ((repeat apply Exists.intro); exact ⟨⟨s + 1, by omega, rfl, rfl, hB⟩, rfl⟩)
              case measure => simp [intOf]; omega
        · obtain rfl : s = Z := by omega
          go_wp2
          go_roundw
          case rel => first | exact ⟨c + 1, by omega, by go_num, by rw [Nat.succ_mul], hB⟩ | ((repeat apply Exists.intro); exact ⟨⟨c + 1, by omega, rfl, by rw [Nat.succ_mul], hB⟩, rfl⟩)
          case measure => simp [intOf]; omega
    · obtain rfl : c = Z := by omega
      have hall := hA.trans (hB.mono (by omega))
      go_wp2
      go_ret2
      exact ⟨by rw [hV.out]; rfl, hall⟩
end Go.Proofs.Ytpieaeokbblflaa
