/- Shared codes that are drawn; conditions: none. -/
import Derived.Test.YtjeaeninpmaoiaaDraw9
import Derived.Test.YtjeaeninpmaoiaaLists
namespace Go.Proofs.Ytjeaeninpmaoiaa
open Go.RowKit

/-- a list of one list -/
theorem ownR_one (w : World) (B : Nat) (v : Value) (xs : List Int) (h : OwnI w B v xs) (hB : B ≤ w.heap.size) :
    OwnR (w.alloc (.cells #[v] 26)) B (fun k => B ≤ k ∧ k < (w.alloc (.cells #[v] 26)).heap.size) (.slice (some ⟨w.heap.size, 0, none⟩) 1 1) [xs] := by
  have hA := (Below.refl w.heap.size w).alloc (Nat.le_refl _) (.cells #[v] 26)
  obtain ⟨h1, -⟩ := own_rowsI w B #[v] [v] 1 rfl rfl hB (by simp)
  refine ⟨[v], h1, rfl, fun i h1 h2 => ?_, fun i j h1 h2 hne => ?_, fun g hg => ?_, fun i hi g hg => ?_⟩
  · have : i = 0 := by simp at h1; omega
    subst this
    exact h.below hA
  · simp at h1 h2; omega
  · simp [Value.ownBlock] at hg
    simp; omega
  · have : i = 0 := by simp at hi; omega
    subst this
    have := OwnS.lt h g hg
    simp; omega
set_option maxRecDepth 100000 in
set_option maxHeartbeats 4000000 in
theorem c_DrawSharedScores (v : Value) (m : Nat) (w : World) (h : BytesV w v m) :
    Calls Try.prog 14 #[v] w fun e w' => ∃ n v' cs, e = .returned (.tuple #[.int .i64 n, v']) ∧ OwnR w' w.heap.size (fun k => w.heap.size ≤ k ∧ k < w'.heap.size) v' cs ∧ cs.length ≤ 5 ∧ Below w.heap.size w w' := by
  obtain ⟨ad, cap, rfl, hcap, hbr⟩ := id h
  have hcn := cur_new (cap := cap) hbr
  have hA := (Below.refl w.heap.size w).alloc (Nat.le_refl _) (.cells #[.slice ad m cap, .int .i64 0, .int .u64 0] 63)
  obtain ⟨wa, hwa⟩ : ∃ z, z = w.alloc (.cells #[.slice ad m cap, .int .i64 0, .int .u64 0] 63) := ⟨_, rfl⟩
  have hza : wa.heap.size = w.heap.size + 1 := by rw [hwa]; simp
  rw [← hwa] at hcn hA
  go_enter Try.func14, Try.ntmps14
  go_wp2_with fail
  rw [← hwa]
  clear hwa
  refine (c_code9 w.heap.size 0 _ hcn (by omega)).mono ?_
  rintro e w1 ⟨n, v1, xs, rfl, hn4, ho, hl, hc1, hk1⟩
  have hz1 := hk1.size
  obtain ⟨a1, p1, rfl, -, -⟩ := ho.ints.out
  have hR0 := ownR_one w1 (w.heap.size + 1) (.slice a1 xs.length p1) xs (ho.mono (by omega)) (by omega)
  have hA1 := (Below.refl w1.heap.size w1).alloc (Nat.le_refl _) (.cells #[.slice a1 xs.length p1] 26)
  obtain ⟨w2, hw2⟩ : ∃ z, z = w1.alloc (.cells #[.slice a1 xs.length p1] 26) := ⟨_, rfl⟩
  have hz2 : w2.heap.size = w1.heap.size + 1 := by rw [hw2]; simp
  rw [← hw2] at hR0 hA1
  have hc2 := hc1.below hA1
  have hkk : Below w.heap.size w w2 := (own_below hA hk1 (Nat.le_refl _)).trans (hA1.mono (by omega))
  clear ho hbr hcn
  go_wp2_with fail
  rw [← hw2]
  clear hw2
  refine (c_pick w.heap.size 44 4 _ hc2 (by omega) (by omega)).mono ?_
  rintro e w3 ⟨q, rfl, hq, hc3, hk3⟩
  have hq4 : q < 4 := by omega
  have hz3 := hk3.size
  have hR3 := hR0.off hk3 (fun k f e => by omega)
  have hB3 := hkk.trans (hk3.below (B := w.heap.size) (fun k e => by omega) (by omega))
  obtain ⟨a0, c0, e0, -⟩ := hR3.rows.out
  go_wp2_with fail
  go_loopw [7, 8] (fun cv i wr => ∃ (k : Nat) (cs : List (List Int)), k ≤ q ∧ i = .int .i64 k ∧ OwnR wr (w.heap.size + 1) (fun j => w.heap.size + 1 ≤ j ∧ j < wr.heap.size) cv cs ∧ cs.length + k = 1 + q ∧ CurR wr w.heap.size (46 + 40 * (q - k)) ∧ Below w.heap.size w wr ∧ w.heap.size + 1 ≤ wr.heap.size) (fun _ i _ => (intOf i).toNat)
  case atStart => exact ⟨q, [xs], Nat.le_refl _, rfl, hR3.mono (Nat.le_refl _) (fun k f => by omega), by simp, hc3.more (by omega), hB3, by omega⟩
  case round =>
    clear hR3 hc3 hB3
    obtain ⟨k, cs, hk, rfl, hR, hcl, hc, hB, hsz⟩ := hrel
    by_cases hk0 : 0 < k
    · have hd : decide ((k : Int) > 0) = true := by simp; omega
      obtain ⟨wo, rfl⟩ : ∃ wo : World, wo = wr := ⟨_, rfl⟩
      go_wp2_with fail
      refine (c_codeOf w.heap.size _ n _ hc (by omega) hn4).mono ?_
      rintro e w4 ⟨v4, ys, rfl, hy, hyl, hc4, hk4⟩
      have hz4 := hk4.size
      obtain ⟨a4, p4, rfl, -, -⟩ := hy.ints.out
      have hR4 := hR.off hk4 (fun k f e => by omega)
      have hB4 := hB.trans (hk4.below (B := w.heap.size) (fun k e => by omega) (by omega))
      have hdd : ∀ g, (Value.slice a4 ys.length p4).ownBlock = some g → ¬ (w.heap.size + 1 ≤ g ∧ g < wo.heap.size) := fun g e f => by have := OwnS.lt hy g e; omega
      clear hR hc hB
      go_wp2_with (at_builtin; refine wp_append_row _ (.slice a4 ys.length p4) rfl _ _ rfl (w.heap.size + 1) _ _ cs rfl hR4 ys (hy.mono (by omega)) hdd rfl (by first | rfl | simp) (by omega) (by omega) ?_; intro v5 w5 hn5 hg5 hB5 _)
      have hc5 : CurR w5 w.heap.size _ := hc4.off (keptOfB hB5 hB5.size) fun q hq => by omega
      have hz5 := hB5.size
      have hB6 := hB4.trans (hB5.mono (by omega))
      go_roundw
      case rel => first | exact ⟨k - 1, _, by omega, by go_num, hn5, by simp; omega, hc5.more (by omega), hB6, by omega⟩ | ((repeat apply Exists.intro); exact ⟨⟨k - 1, _, by omega, by congr 1; omega, hn5, by simp; omega, hc5.more (by omega), hB6, by omega⟩, rfl⟩)
      case measure => simp [intOf]; omega
    · obtain rfl : k = 0 := by omega
      obtain ⟨wo, rfl⟩ : ∃ wo : World, wo = wr := ⟨_, rfl⟩
      go_wp2_with fail
      refine (c_one w.heap.size _ 24 _ hc (by omega) (by omega)).mono ?_
      rintro e w4 ⟨b, rfl, hc4, hk4⟩
      have hz4 := hk4.size
      have hR4 := hR.off hk4 (fun k f e => by omega)
      have hB4 := hB.trans (hk4.below (B := w.heap.size) (fun k e => by omega) (by omega))
      cases b
      · go_wp2
        go_ret2
        exact ⟨n, _, cs, rfl, hR4.mono (by omega) (fun k f => by omega), by omega, hB4⟩
      · have hE := ownR_empty w4 w.heap.size (by omega)
        have hA4 := (Below.refl w4.heap.size w4).alloc (Nat.le_refl _) (.cells #[] 26)
        go_wp2
        go_ret2
        exact ⟨n, _, [], rfl, hE, by simp, hB4.trans (hA4.mono (by omega))⟩
end Go.Proofs.Ytjeaeninpmaoiaa
