/- What a play wins: the program's side; conditions: the game is one. -/
import Derived.Test.YtpieaeokbblflaaLawTG
import Derived.Test.YtpieaeokbblflaaTalkValI
namespace Go.Proofs.Ytpieaeokbblflaa
open Go.RowKit

theorem rowW_le {r : GameD} {X Y : Nat} (g : GameOk r X Y) (x a : Nat) (b : Nat → Nat) : ∀ n, 0 ≤ rowW r Y x a b n ∧ rowW r Y x a b n ≤ 99 * n
  | 0 => by simp [rowW]
  | n + 1 => by
    have h1 := rowW_le g x a b n
    have h2 := g.won x n a (b n)
    simp only [rowW]; omega
theorem playW_le {r : GameD} {X Y : Nat} (g : GameOk r X Y) (a b : Nat → Nat) : ∀ n, 0 ≤ playW r Y a b n ∧ playW r Y a b n ≤ 297 * n
  | 0 => by simp [playW]
  | n + 1 => by
    have h1 := playW_le g a b n
    have h2 := rowW_le g n (a n) b Y
    have h3 := g.bY
    simp only [playW]; omega

set_option maxRecDepth 100000 in
set_option maxHeartbeats 4000000 in
theorem c_playWorth (vf vx : Value) (r : GameD) (X Y : Nat) (xs : List Int) (a b : Nat → Nat) (w : World) (hf : Rows2 w vf (funL r)) (hx : Ints w vx xs) (gk : GameOk r X Y) (hl : xs.length = X + Y)
    (ha : ∀ i (h : i < X), xs[i] = (a i : Int)) (hb : ∀ i (h : i < Y), xs[X + i] = (b i : Int)) (ha1 : ∀ i, a i ≤ 1) (hb1 : ∀ i, b i ≤ 1) :
    Calls Try.prog 136 #[.int .i64 X, .int .i64 Y, vf, vx] w fun e w' => e = .returned (.int .i64 (playW r Y a b X)) ∧ Below w.heap.size w w' := by
  have bX := gk.bx
  have bY := gk.bY
  have hlr := gk.lr
  obtain ⟨N, hNd⟩ : ∃ z, z = X * Y := ⟨_, rfl⟩
  rw [← hNd] at hlr
  have hN0 : 1 ≤ N := by rw [hNd]; exact Nat.mul_pos bX.1 bY.1
  obtain ⟨adf, capf, rfl, -⟩ := hf.out
  have hfl : (funL r).length = N := by rw [← hlr]; exact mapR_len _ _
  rw [hfl] at hf ⊢
  obtain ⟨fb, fo, aq, cq, e0, hfb, -, -⟩ := hf.at 0 (by omega)
  subst e0
  obtain ⟨ax, cx, rfl, -, -⟩ := hx.out
  obtain ⟨xb, xo, e1, hxb, -⟩ := hx.at 0 (by omega)
  subst e1
  rw [hl] at hx ⊢
  have hxc : ∀ i (h : i < xs.length), w.cell? ⟨xb, xo + i, none⟩ = some (.int .i64 xs[i]) := by
    intro i h
    obtain ⟨b4, o4, e, -, hc4⟩ := hx.at i h
    simp only [Option.some.injEq, Addr.mk.injEq, and_true] at e
    obtain ⟨rfl, rfl⟩ := e
    exact hc4
  replace hlr := Lib.hid hlr
  replace hNd := Lib.hid hNd
  replace gk := Lib.hid gk
  replace ha := Lib.hid ha
  replace hb := Lib.hid hb
  replace hl := Lib.hid hl
  replace hxc := Lib.hid hxc
  clear hfl
  go_enter Try.func136, Try.ntmps136
  go_wp2_with fail
  go_loopw [9, 13] (fun m i wr => ∃ x : Nat, x ≤ X ∧ i = .int .i64 x ∧ m = .int .i64 (playW r Y a b x) ∧ Below w.heap.size w wr) (fun _ i _ => X - (intOf i).toNat)
  case atStart => exact ⟨0, Nat.zero_le _, rfl, rfl, Below.refl _ _⟩
  case round =>
    obtain ⟨x, hx3, rfl, rfl, hB⟩ := hrel
    by_cases hlx : x < X
    · have hdx : decide ((x : Int) < (X : Int)) = true := by simp; omega
      go_wp2_with fail
      go_loopw [9, 17] (fun m i wr => ∃ y : Nat, y ≤ Y ∧ i = .int .i64 y ∧ m = .int .i64 (playW r Y a b x + rowW r Y x (a x) b y) ∧ Below w.heap.size w wr) (fun _ i _ => Y - (intOf i).toNat)
      case atStart => exact ⟨0, by omega, rfl, by simp [rowW], hB⟩
      case round =>
        clear hB
        obtain ⟨y, hy, rfl, rfl, hB⟩ := hrel
        by_cases hly : y < Y
        · have hdy : decide ((y : Int) < (Y : Int)) = true := by simp; omega
          obtain ⟨i1, i2, i3⟩ := gk.out.idx hlx hly
          rw [← hNd.out] at i1 i2
          have hm : ((x : Int) * (Y : Int)) = ((x * Y : Nat) : Int) := by simp
          have hVV : wonF r Y x y (a x) (b y) = wgt r (x * Y + y) * win r (x * Y + y) (2 * a x + b y) := rfl
          have hst : rowW r Y x (a x) b (y + 1) = rowW r Y x (a x) b y + wonF r Y x y (a x) (b y) := rfl
          have q1 := playW_le gk.out a b x
          have q2 := rowW_le gk.out x (a x) b y
          have q3 := gk.out.won x y (a x) (b y)
          generalize x * Y = P at i1 i3 hm hVV
          obtain ⟨hfl, b3, o3, c3, e3, hb3, e4⟩ := fun_at (hf.below hB) (P + y) (by rw [hlr.out]; omega)
          have a1 := ha1 x
          have b1 := hb1 y
          have e5 := e4 (2 * a x + b y) (by omega)
          rw [← hVV] at e5
          have c1 : wr.cell? ⟨xb, xo + x, none⟩ = some (.int .i64 (a x)) := ((bcell hB).1 _ _ hxb).trans (by rw [hxc.out x (by rw [hl.out]; omega), ha.out x hlx])
          have c2 : wr.cell? ⟨xb, xo + (X + y), none⟩ = some (.int .i64 (b y)) := ((bcell hB).1 _ _ hxb).trans (by rw [hxc.out (X + y) (by rw [hl.out]; omega), hb.out y hly])
          obtain ⟨p0, hp0⟩ : ∃ z, z = playW r Y a b x := ⟨_, rfl⟩
          obtain ⟨r0, hr0⟩ : ∃ z, z = rowW r Y x (a x) b y := ⟨_, rfl⟩
          obtain ⟨v0, hv0⟩ : ∃ z, z = wonF r Y x y (a x) (b y) := ⟨_, rfl⟩
          rw [← hr0, ← hv0] at hst
          replace hst := Lib.hid hst
          rw [← hp0] at q1 ⊢
          rw [← hr0] at q2 ⊢
          rw [← hv0] at q3 e5
          obtain ⟨ca, hca⟩ : ∃ z, z = a x := ⟨_, rfl⟩
          obtain ⟨cb, hcb⟩ : ∃ z, z = b y := ⟨_, rfl⟩
          rw [← hca] at c1 e5 a1
          rw [← hcb] at c2 e5 b1
          have d1 : decide (((P : Int) + (y : Int)) < (N : Int)) = true := by simp; omega
          have d2 : decide ((x : Int) < ((X + Y : Nat) : Int)) = true := by simp; omega
          have d3 : decide (((X : Int) + (y : Int)) < ((X + Y : Nat) : Int)) = true := by simp; omega
          have d4 : decide ((2 * (ca : Int) + (cb : Int)) < 4) = true := by simp; omega
          have hBd := hB.drew
          replace hca := Lib.hid hca
          replace hcb := Lib.hid hcb
          clear hp0 hr0 hv0 e4 hVV hfl hb3
          go_wp2_with fail
          go_region
          go_wp2
          go_roundw
          case rel => first | exact ⟨y + 1, by omega, by go_num, by rw [hst.out, ← Int.add_assoc], hBd⟩ | ((repeat apply Exists.intro); exact ⟨⟨y + 1, by omega, rfl, by rw [hst.out, ← Int.add_assoc], hBd⟩, rfl⟩)
          case measure => simp [intOf]; omega
        · obtain rfl : Y = y := by omega
          go_wp2
          go_roundw
          case rel => first | exact ⟨x + 1, by omega, by go_num, rfl, hB⟩ | ((repeat apply Exists.intro); exact ⟨⟨x + 1, by omega, rfl, rfl, hB⟩, rfl⟩)
          case measure => simp [intOf]; omega
    · obtain rfl : X = x := by omega
      go_wp2
      go_ret
      exact ⟨rfl, hB⟩
end Go.Proofs.Ytpieaeokbblflaa
