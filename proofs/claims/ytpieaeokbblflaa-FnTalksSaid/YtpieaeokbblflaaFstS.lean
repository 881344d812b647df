/- What can be said first: the reference's side; conditions: none. -/
import Derived.Test.YtpieaeokbblflaaFst
namespace Go.Proofs.Ytpieaeokbblflaa
open Go.RowKit

/-- a set of n things as a list of bits -/
def bitsL (n p : Nat) : List Int := mapR (fun i => bitAt i p) n
theorem bitsL_len (n p : Nat) : (bitsL n p).length = n := mapR_len _ _
def codeTo (p : Nat) : Nat → Nat
  | 0 => 0
  | k + 1 => 2 * codeTo p k + p / 2 ^ k % 2
theorem codeTo_lt (p : Nat) : ∀ k, codeTo p k < 2 ^ k
  | 0 => by simp [codeTo]
  | k + 1 => by have := codeTo_lt p k; unfold codeTo; omega
theorem codeTo_rev : ∀ n : Nat, n < 5 → ∀ p : Nat, p < 2 ^ n → codeTo p n = revb n p := by decide +kernel

set_option maxRecDepth 100000 in
theorem c_l8Bits (n p : Nat) (w : World) (hn : n ≤ 4) (hp : p < 16) :
    Calls Try.prog 81 #[.int .i64 (n : Int), .int .i64 (p : Int)] w fun e w' => ∃ v', e = .returned v' ∧ OwnI w' w.heap.size v' (bitsL n p) ∧ Below w.heap.size w w' := by
  go_enter Try.func81, Try.ntmps81
  go_wp2_with fail
  go_loopw [5, 6] (fun v i wr => ∃ k : Nat, k ≤ n ∧ i = .int .i64 k ∧ OwnI wr w.heap.size v (bitsL k p) ∧ Below w.heap.size w wr) (fun _ i _ => n - (intOf i).toNat)
  case atStart => exact ⟨0, Nat.zero_le _, rfl, own_empty _ _ (Nat.le_refl _), (Below.refl _ _).alloc (Nat.le_refl _) _⟩
  case round =>
    obtain ⟨k, hk, rfl, hown, hB⟩ := hrel
    have hsz := hB.size
    by_cases hlt : k < n
    · have hdk : decide ((k : Int) < (n : Int)) = true := by simp; omega
      have hE := Lib.hid (and1_div p k (by omega))
      go_wp2_with (at_builtin; refine wp_append_int _ _ rfl _ _ rfl w.heap.size _ _ rfl hown rfl (by first | rfl | simp) (by rw [bitsL_len]; omega) hsz ?_; intro v' w1 hown1 _ hB1 _)
      rw [hE.out, show bitsL k p ++ [bitAt k p] = bitsL (k + 1) p from (mapR_succ _ _).symm] at hown1
      have hB2 := hB.trans hB1
      go_roundw
      case rel => first | exact ⟨k + 1, by omega, by go_num, hown1, hB2⟩ | ((repeat apply Exists.intro); exact ⟨⟨k + 1, by omega, rfl, hown1, hB2⟩, rfl⟩)
      case measure => simp [intOf]; omega
    · obtain rfl : k = n := by omega
      go_wp2
      go_ret
      exact ⟨_, rfl, hown, hB⟩

set_option maxRecDepth 100000 in
theorem c_l8Code (v : Value) (n p : Nat) (w : World) (h : Ints w v (bitsL n p)) (hn : n ≤ 4) (hp : p < 2 ^ n) :
    Calls Try.prog 142 #[v] w fun e w' => e = .returned (.int .i64 (revb n p : Int)) ∧ w = w' := by
  obtain ⟨ad, cap, rfl, hl, -⟩ := h.out
  have hF : Hid (codeTo p n = revb n p) := Lib.hid (codeTo_rev n (by omega) p hp)
  rw [bitsL_len] at hl ⊢
  go_enter Try.func142, Try.ntmps142
  go_wp2_with fail
  go_loop [3, 4] (fun c i => ∃ k : Nat, k ≤ n ∧ i = .int .i64 k ∧ c = .int .i64 (codeTo p k : Int)) (fun _ i => n - (intOf i).toNat)
  case atStart => exact ⟨0, Nat.zero_le _, rfl, rfl⟩
  case round =>
    obtain ⟨k, hk, rfl, rfl⟩ := hrel
    have hc := codeTo_lt p k
    have hc2 : codeTo p k < 16 := Nat.lt_of_lt_of_le hc (Nat.pow_le_pow_right (by decide) (by omega) : 2 ^ k ≤ 2 ^ 4)
    clear hc
    by_cases hlt : k < n
    · have hdk : decide ((k : Int) < (n : Int)) = true := by simp; omega
      obtain ⟨bl, off, rfl, hb, hcell⟩ := h.at k (by rw [bitsL_len]; exact hlt)
      rw [show (bitsL n p)[k]'(by rw [bitsL_len]; exact hlt) = ((p / 2 ^ k % 2 : Nat) : Int) by simp [bitsL, mapR, bitAt]] at hcell
      obtain ⟨q, hq⟩ : ∃ q, q = p / 2 ^ k % 2 := ⟨_, rfl⟩
      have hq2 : q < 2 := by rw [hq]; exact Nat.mod_lt _ (by omega)
      rw [← hq] at hcell
      have hN : Hid (((codeTo p (k + 1) : Nat) : Int) = 2 * (codeTo p k : Int) + (q : Int)) := Lib.hid (by rw [hq]; show ((2 * codeTo p k + p / 2 ^ k % 2 : Nat) : Int) = _; omega)
      replace hq := Lib.hid hq
      go_wp2
      go_round
      case rel => exact ⟨k + 1, by omega, by go_num, by rw [hN.out]⟩
      case measure => simp [intOf]; omega
    · obtain rfl : k = n := by omega
      go_wp2
      go_ret
      exact ⟨by rw [hF.out]; rfl, rfl⟩

/-- numbers as a list -/
def funL (f : Nat → Nat) (m : Nat) : List Int := mapR (fun j => (f j : Int)) m
theorem funL_len (f : Nat → Nat) (m : Nat) : (funL f m).length = m := mapR_len _ _
theorem funL_at (f : Nat → Nat) (m j : Nat) (h : j < (funL f m).length) : (funL f m)[j] = (f j : Int) := by simp [funL, mapR]
def goodN (f : Nat → Nat) (all p : Nat) : Bool := (p &&& all == p) && decide (max (f p) (f (all - p)) < f all)
theorem best_no {g : Nat → Bool} {cd : Nat → Nat} {p : Nat} (h : g p = false) : bestTo g cd (p + 1) = bestTo g cd p := by simp [bestTo, h]
theorem best_yes {g : Nat → Bool} {cd : Nat → Nat} {p : Nat} (h0 : 0 < p) (h : g p = true) : bestTo g cd (p + 1) = if bestTo g cd p == 0 || decide (cd p < cd (bestTo g cd p)) then p else bestTo g cd p := by simp [bestTo, h, h0]
theorem best_lt (g : Nat → Bool) (cd : Nat → Nat) (k : Nat) (h : 0 < k) : bestTo g cd k < k := by
  rcases bestTo_spec g cd k with ⟨h1, -⟩ | ⟨-, h2, -⟩ <;> omega

set_option maxRecDepth 100000 in
set_option maxHeartbeats 4000000 in
theorem c_l8First (n all : Nat) (f : Nat → Nat) (v : Value) (w : World) (h : Ints w v (funL f (2 ^ n))) (hn : n ≤ 4) (ha0 : 0 < all) (ha : all < 2 ^ n) (hf : ∀ j, f j ≤ 8) :
    Calls Try.prog 130 #[.int .i64 (n : Int), .int .i64 (all : Int), v] w fun e w' => e = .returned (.int .i64 (bestTo (goodN f all) (revb n) all : Int)) ∧ Below w.heap.size w w' := by
  obtain ⟨ad, cap, rfl, hl, -⟩ := h.out
  rw [funL_len] at hl ⊢
  obtain ⟨M, hM⟩ : ∃ z, z = 2 ^ n := ⟨_, rfl⟩
  have hM16 : M ≤ 16 := by rw [hM]; exact (Nat.pow_le_pow_right (by decide) hn : 2 ^ n ≤ 2 ^ 4)
  have hMn : ∀ p, p < M → p < 2 ^ n := fun p hp => by rw [← hM]; exact hp
  rw [← hM] at ha hl h ⊢
  obtain ⟨bl, off, rfl, hbl, hcell0⟩ := h.at all (by rw [funL_len]; exact ha)
  rw [funL_at] at hcell0
  have hfa := hf all
  obtain ⟨fa, hfad⟩ : ∃ z, z = f all := ⟨_, rfl⟩
  rw [← hfad] at hfa hcell0
  replace hM := Lib.hid hM
  replace hMn := Lib.hid hMn
  go_enter Try.func130, Try.ntmps130
  go_wp2_with fail
  go_loopw [7, 8] (fun b i wr => ∃ p : Nat, 1 ≤ p ∧ p ≤ all ∧ i = .int .i64 p ∧ b = .int .i64 (bestTo (goodN f all) (revb n) p : Int) ∧ Below w.heap.size w wr) (fun _ i _ => all - (intOf i).toNat)
  case atStart => exact ⟨1, by omega, by omega, rfl, rfl, Below.refl _ _⟩
  case round =>
    obtain ⟨p, hp1, hp2, rfl, rfl, hB⟩ := hrel
    by_cases hlt : p < all
    · have hdp : decide ((p : Int) < (all : Int)) = true := by simp; omega
      have hb := best_lt (goodN f all) (revb n) p (by omega)
      obtain ⟨b, hbd⟩ : ∃ z, z = bestTo (goodN f all) (revb n) p := ⟨_, rfl⟩
      rw [← hbd] at hb ⊢
      have hE := i64_and_nat p all (by omega) (by omega)
      obtain ⟨z, hz⟩ : ∃ q, q = p &&& all := ⟨_, rfl⟩
      rw [← hz] at hE
      cases hzp : ((z : Int) != (p : Int))
      · have hzp2 : z = p := by simp at hzp; omega
        obtain ⟨bl', off', e, hbl1, hcell1⟩ := h.at p (by rw [funL_len]; omega)
        simp only [Option.some.injEq, Addr.mk.injEq, and_true] at e
        obtain ⟨rfl, rfl⟩ := e
        obtain ⟨bl', off', e, hbl2, hcell2⟩ := h.at (all - p) (by rw [funL_len]; omega)
        simp only [Option.some.injEq, Addr.mk.injEq, and_true] at e
        obtain ⟨rfl, rfl⟩ := e
        rw [funL_at] at hcell1 hcell2
        have h1 := hf p
        have h2 := hf (all - p)
        obtain ⟨x, hx⟩ : ∃ z, z = f p := ⟨_, rfl⟩
        obtain ⟨y, hy⟩ : ∃ z, z = f (all - p) := ⟨_, rfl⟩
        rw [← hx] at hcell1 h1
        rw [← hy] at hcell2 h2
        have hg : goodN f all p = decide (max x y < fa) := by unfold goodN; rw [← hz, hzp2, ← hx, ← hy, ← hfad]; simp
        have y1 := ((bcell hB).1 _ _ hbl1).trans hcell1
        have y2 := ((bcell hB).1 _ _ hbl2).trans hcell2
        have y3 := ((bcell hB).1 _ _ hbl).trans hcell0
        have hszw := hB.size
        obtain ⟨m, hm⟩ : ∃ z, z = max x y := ⟨_, rfl⟩
        rw [← hm] at hg
        have hmost : Hid (∀ w, Calls Try.prog 94 #[.int .i64 (x : Int), .int .i64 (y : Int)] w fun e w' => e = .returned (.int .i64 (m : Int)) ∧ w = w') := Lib.hid fun w => by
          have h := c_l1MostN x y w
          rw [show max (x : Int) (y : Int) = (m : Int) by omega] at h
          exact h
        replace hm := Lib.hid hm
        replace hx := Lib.hid hx
        replace hy := Lib.hid hy
        replace hz := Lib.hid hz
        replace hzp2 := Lib.hid hzp2
        by_cases hmf : m < fa
        · have hdm : decide ((fa : Int) ≤ (m : Int)) = false := by simp; omega
          have hs0 : bestTo (goodN f all) (revb n) (p + 1) = if b == 0 || decide (revb n p < revb n b) then p else b := by rw [best_yes (by omega) (by rw [hg]; simp [hmf]), ← hbd]
          replace hbd := Lib.hid hbd
          clear hg
          go_wp2_with fail
          go_quiet ((go_at_call 94; first | exact quiet_left (hmost.out _) | exact quiet_add_left (hmost.out _)))
          have hBq := fun q => below_drewN hB q
          by_cases hb0 : b = 0
          · subst hb0
            have hs : Hid (bestTo (goodN f all) (revb n) (p + 1) = p) := Lib.hid (by rw [hs0]; simp)
            clear hs0
            go_wp2
            go_roundw
            case rel => first | exact ⟨p + 1, by omega, by omega, by go_num, by rw [hs.out], hBq _⟩ | ((repeat apply Exists.intro); exact ⟨⟨p + 1, by omega, by omega, rfl, by rw [hs.out], hBq _⟩, rfl⟩)
            case measure => simp [intOf]; omega
          · have hd0 : ((b : Int) == 0) = false := by simp; omega
            have hbM : b < M := by omega
            go_wp2_with fail
            refine (c_l8Bits n p _ hn (by omega)).mono ?_
            rintro e w1 ⟨v1, rfl, hv1, hb1⟩
            have hB1 := bstep (hBq _) hb1
            clear hBq
            go_wp2_with fail
            refine (c_l8Code _ n p _ hv1.ints hn (hMn.out p (by omega))).mono ?_
            rintro e _ ⟨rfl, rfl⟩
            go_wp2_with fail
            refine (c_l8Bits n b _ hn (by omega)).mono ?_
            rintro e w2 ⟨v2, rfl, hv2, hb2⟩
            have hB2 := bstep hB1 hb2
            go_wp2_with fail
            refine (c_l8Code _ n b _ hv2.ints hn (hMn.out b (by omega))).mono ?_
            rintro e _ ⟨rfl, rfl⟩
            obtain ⟨r1, hr1⟩ : ∃ z, z = revb n p := ⟨_, rfl⟩
            obtain ⟨r2, hr2⟩ : ∃ z, z = revb n b := ⟨_, rfl⟩
            rw [← hr1, ← hr2] at hs0 ⊢
            replace hr1 := Lib.hid hr1
            replace hr2 := Lib.hid hr2
            by_cases hlr : r1 < r2
            · have hdr : decide ((r1 : Int) < (r2 : Int)) = true := by simp; omega
              have hs : Hid (bestTo (goodN f all) (revb n) (p + 1) = p) := Lib.hid (by rw [hs0]; simp [hlr])
              clear hs0
              go_wp2
              go_roundw
              case rel => first | exact ⟨p + 1, by omega, by omega, by go_num, by rw [hs.out], hB2⟩ | ((repeat apply Exists.intro); exact ⟨⟨p + 1, by omega, by omega, rfl, by rw [hs.out], hB2⟩, rfl⟩)
              case measure => simp [intOf]; omega
            · have hdr : decide ((r1 : Int) < (r2 : Int)) = false := by simp; omega
              have hs : Hid (bestTo (goodN f all) (revb n) (p + 1) = b) := Lib.hid (by rw [hs0]; simp [hlr, hb0])
              clear hs0
              go_wp2
              go_roundw
              case rel => first | exact ⟨p + 1, by omega, by omega, by go_num, by rw [hs.out], hB2⟩ | ((repeat apply Exists.intro); exact ⟨⟨p + 1, by omega, by omega, rfl, by rw [hs.out], hB2⟩, rfl⟩)
              case measure => simp [intOf]; omega
        · have hdm : decide ((fa : Int) ≤ (m : Int)) = true := by simp; omega
          have hs : Hid (bestTo (goodN f all) (revb n) (p + 1) = b) := Lib.hid (by rw [best_no (by rw [hg]; simp [hmf]), hbd])
          clear hbd hg
          go_wp2_with fail
          go_quiet ((go_at_call 94; first | exact quiet_left (hmost.out _) | exact quiet_add_left (hmost.out _)))
          have hBq := fun q => below_drewN hB q
          go_wp2
          go_roundw
          case rel => first | exact ⟨p + 1, by omega, by omega, by go_num, by rw [hs.out], hBq _⟩ | ((repeat apply Exists.intro); exact ⟨⟨p + 1, by omega, by omega, rfl, by rw [hs.out], hBq _⟩, rfl⟩)
          case measure => simp [intOf]; omega
      · have hg : goodN f all p = false := by unfold goodN; rw [← hz]; simp at hzp ⊢; intro e; omega
        have hs : Hid (bestTo (goodN f all) (revb n) (p + 1) = b) := Lib.hid (by rw [best_no hg, hbd])
        clear hz hbd
        go_wp2_with fail
        go_quiet (fail)
        go_wp2
        go_roundw
        case rel => first | exact ⟨p + 1, by omega, by omega, by go_num, by rw [hs.out], below_drewN hB _⟩ | ((repeat apply Exists.intro); exact ⟨⟨p + 1, by omega, by omega, rfl, by rw [hs.out], below_drewN hB _⟩, rfl⟩)
        case measure => simp [intOf]; omega
    · obtain rfl : p = all := by omega
      go_wp2
      go_ret
      exact ⟨rfl, hB⟩
end Go.Proofs.Ytpieaeokbblflaa
