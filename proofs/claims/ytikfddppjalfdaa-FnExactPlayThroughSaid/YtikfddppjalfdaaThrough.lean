/- The contracts of PlayThrough on both sides; conditions: none. -/
import Derived.Test.YtikfddppjalfdaaFlip
namespace Go.Proofs.Ytikfddppjalfdaa
open Go.RowKit

def thrA (r : RuleD) (one : List Int) (k : Nat) : Nat := (one.getD (r.f.getD k 0).toNat 0).toNat
def thrC (r : RuleD) (one two : List Int) (k : Nat) : Nat := (two.getD ((r.a.getD k []).getD (thrA r one k) 0).toNat 0).toNat
def thrF (r : RuleD) (one two : List Int) (k : Nat) : Int := (r.s.getD k []).getD (2 * thrA r one k + thrC r one two k) 0
def playL (r : RuleD) (one two : List Int) : List Int := if ruleB r && (bitsB 2 one && bitsB 2 two) then mapR (thrF r one two) 2 else []

theorem bit_nat {xs : List Int} (h : ∀ q ∈ xs, 0 ≤ q ∧ q ≤ 1) (k : Nat) (hk : k < xs.length) : ∃ j : Nat, xs[k] = (j : Int) ∧ j < 2 ∧ xs.getD k 0 = (j : Int) := by
  have := h xs[k] (List.getElem_mem hk)
  obtain ⟨j, hj⟩ := Int.eq_ofNat_of_zero_le this.1
  exact ⟨j, hj, by omega, by simp [List.getD, hk, hj]⟩
theorem ints_cell {w : World} {b off n cap : Nat} {xs : List Int} (h : Ints w (.slice (some ⟨b, off, none⟩) n cap) xs) (k : Nat) (hk : k < xs.length) : w.cell? ⟨b, off + k, none⟩ = some (.int .i64 xs[k]) ∧ b < w.heap.size := by
  obtain ⟨b', o', e, hb, hc⟩ := h.at k hk
  cases e
  exact ⟨hc, hb⟩
theorem rows_cell {w : World} {b off n cap : Nat} {xss : List (List Int)} (h : Rows2 w (.slice (some ⟨b, off, none⟩) n cap) xss) (k : Nat) (hk : k < xss.length) (h0 : 0 < xss[k].length) :
    ∃ b' o' c', w.cell? ⟨b, off + k, none⟩ = some (.slice (some ⟨b', o', none⟩) xss[k].length c') ∧ Ints w (.slice (some ⟨b', o', none⟩) xss[k].length c') xss[k] ∧ b < w.heap.size ∧ b' < w.heap.size := by
  obtain ⟨b1, o1, a', c', e, hb, hc, hi⟩ := h.at k hk
  cases e
  obtain ⟨b2, o2, rfl, hb2, -⟩ := hi.at 0 h0
  exact ⟨b2, o2, c', hc, hi, hb, hb2⟩

theorem through_at {w : World} {f x0 x1 y0 y1 one two : List Int} {bF oF nF kF b1 o1 n1 k1 b2 o2 n2 k2 bA oA nA kA bS oS nS kS : Nat} (hr : ruleB ⟨f, [x0, x1], [y0, y1]⟩ = true) (ho : bitsB 2 one = true) (ht : bitsB 2 two = true)
    (hF : Ints w (.slice (some ⟨bF, oF, none⟩) nF kF) f) (h1 : Ints w (.slice (some ⟨b1, o1, none⟩) n1 k1) one) (h2 : Ints w (.slice (some ⟨b2, o2, none⟩) n2 k2) two) (hA : Rows2 w (.slice (some ⟨bA, oA, none⟩) nA kA) [x0, x1]) (hS : Rows2 w (.slice (some ⟨bS, oS, none⟩) nS kS) [y0, y1]) (k : Nat) (hk : k < 2) :
    ∃ (j1 j2 j3 j4 : Nat) (q : Int) (bX oX cX bY oY cY : Nat), (j1 < 2 ∧ j2 < 2 ∧ j3 < 2 ∧ j4 < 2) ∧ w.cell? ⟨bF, oF + k, none⟩ = some (.int .i64 (j1 : Int)) ∧ w.cell? ⟨b1, o1 + j1, none⟩ = some (.int .i64 (j2 : Int)) ∧ w.cell? ⟨bA, oA + k, none⟩ = some (.slice (some ⟨bX, oX, none⟩) 2 cX) ∧
      w.cell? ⟨bX, oX + j2, none⟩ = some (.int .i64 (j3 : Int)) ∧ w.cell? ⟨b2, o2 + j3, none⟩ = some (.int .i64 (j4 : Int)) ∧ w.cell? ⟨bS, oS + k, none⟩ = some (.slice (some ⟨bY, oY, none⟩) 4 cY) ∧ w.cell? ⟨bY, oY + (2 * j2 + j4), none⟩ = some (.int .i64 q) ∧
      q = thrF ⟨f, [x0, x1], [y0, y1]⟩ one two k ∧ (bF < w.heap.size ∧ b1 < w.heap.size ∧ b2 < w.heap.size ∧ bA < w.heap.size ∧ bS < w.heap.size ∧ bX < w.heap.size ∧ bY < w.heap.size) := by
  obtain ⟨f', x0', x1', y0', y1', e, ⟨lf, bf⟩, hx0, hx1, hy0, hy1⟩ := rule_parts hr
  cases e
  obtain ⟨lo, bo⟩ := bitsB_len (n := 2) ho
  obtain ⟨lt, bt⟩ := bitsB_len (n := 2) ht
  have hx : ∀ i (h : i < [x0, x1].length), [x0, x1][i].length = 2 ∧ ∀ q ∈ [x0, x1][i], 0 ≤ q ∧ q ≤ 1 := by
    intro i h
    rcases i with _ | _ | i
    · exact hx0
    · exact hx1
    · simp at h; omega
  have hy : ∀ i (h : i < [y0, y1].length), [y0, y1][i].length = 4 := by
    intro i h
    rcases i with _ | _ | i
    · exact hy0.1
    · exact hy1.1
    · simp at h; omega
  have hk1 : k < [x0, x1].length := by simpa using hk
  have hk2 : k < [y0, y1].length := by simpa using hk
  obtain ⟨j1, e1, l1, g1⟩ := bit_nat bf k (by omega)
  obtain ⟨j2, e2, l2, g2⟩ := bit_nat bo j1 (by omega)
  obtain ⟨lx, bx⟩ := hx k hk1
  obtain ⟨bX, oX, cX, cx, ix, hbA, hbX⟩ := rows_cell hA k hk1 (by omega)
  obtain ⟨j3, e3, l3, g3⟩ := bit_nat bx j2 (by omega)
  obtain ⟨j4, e4, l4, g4⟩ := bit_nat bt j3 (by omega)
  have ly := hy k hk2
  obtain ⟨bY, oY, cY, cy, iy, hbS, hbY⟩ := rows_cell hS k hk2 (by omega)
  have p1 := ints_cell hF k (by omega)
  have p2 := ints_cell h1 j1 (by omega)
  have p3 := ints_cell ix j2 (by omega)
  have p4 := ints_cell h2 j3 (by omega)
  have p5 := ints_cell iy (2 * j2 + j4) (by omega)
  rw [e1] at p1
  rw [e2] at p2
  rw [e3] at p3
  rw [e4] at p4
  rw [lx] at cx
  rw [ly] at cy
  refine ⟨j1, j2, j3, j4, _, bX, oX, cX, bY, oY, cY, ⟨l1, l2, l3, l4⟩, p1.1, p2.1, cx, p3.1, p4.1, cy, p5.1, ?_, p1.2, p2.2, p4.2, hbA, hbS, hbX, hbY⟩
  have gx : [x0, x1].getD k [] = [x0, x1][k] := by rw [List.getD, List.getElem?_eq_getElem hk1]; rfl
  have gy : [y0, y1].getD k [] = [y0, y1][k] := by rw [List.getD, List.getElem?_eq_getElem hk2]; rfl
  have hlq : 2 * j2 + j4 < [y0, y1][k].length := by rw [ly]; omega
  have a1 : thrA ⟨f, [x0, x1], [y0, y1]⟩ one k = j2 := by unfold thrA; simp only [g1, Int.toNat_natCast, g2]
  have a2 : thrC ⟨f, [x0, x1], [y0, y1]⟩ one two k = j4 := by unfold thrC; simp only [a1, gx, g3, Int.toNat_natCast, g4]
  unfold thrF
  rw [a1, a2]
  simp only [gy]
  rw [List.getD, List.getElem?_eq_getElem hlq]
  rfl

set_option maxHeartbeats 4000000 in
theorem c_l10Through (v t1 t2 : Value) (r : RuleD) (one two : List Int) (w : World) (h : RuleR w v r) (ho : Ints w t1 one) (ht : Ints w t2 two) (hr : ruleB r = true) (hb1 : bitsB 2 one = true) (hb2 : bitsB 2 two = true) :
    Calls Try.prog 80 #[v, t1, t2] w fun e w' => ∃ v', e = .returned v' ∧ OwnI w' w.heap.size v' (mapR (thrF r one two) 2) ∧ Below w.heap.size w w' := by
  obtain ⟨f, x0, x1, y0, y1, rfl, ⟨lf, -⟩, -⟩ := rule_parts hr
  obtain ⟨v1, v2, v3, rfl, h1, h2, h3⟩ := h
  obtain ⟨_, kF, rfl, -, -⟩ := h1.out
  obtain ⟨bF, oF, rfl, -, -⟩ := h1.at 0 (show 0 < f.length by omega)
  obtain ⟨_, kA, rfl, -⟩ := h2.out
  obtain ⟨bA, oA, _, _, rfl, -, -, -⟩ := h2.at 0 (by simp)
  obtain ⟨_, kS, rfl, -⟩ := h3.out
  obtain ⟨bS, oS, _, _, rfl, -, -, -⟩ := h3.at 0 (by simp)
  have lo := (bitsB_len (n := 2) hb1).1
  have lt := (bitsB_len (n := 2) hb2).1
  obtain ⟨_, ko, rfl, -, -⟩ := ho.out
  obtain ⟨bo, oo, rfl, -, -⟩ := ho.at 0 (by omega)
  obtain ⟨_, kt, rfl, -, -⟩ := ht.out
  obtain ⟨bt, ot, rfl, -, -⟩ := ht.at 0 (by omega)
  rw [lf] at h1 ⊢
  rw [lo] at ho ⊢
  rw [lt] at ht ⊢
  replace lf := Lib.hid lf
  replace lo := Lib.hid lo
  replace lt := Lib.hid lt
  have hat := through_at hr hb1 hb2 h1 ho ht h2 h3
  replace hat := Lib.hid hat
  replace hr := Lib.hid hr
  replace hb1 := Lib.hid hb1
  replace hb2 := Lib.hid hb2
  go_enter Try.func80, Try.ntmps80
  go_wp2_with fail
  go_loopw [7, 8] (fun v j wr => ∃ k : Nat, k ≤ 2 ∧ j = .int .i64 k ∧ OwnI wr w.heap.size v (mapR (thrF ⟨f, [x0, x1], [y0, y1]⟩ one two) k) ∧ Below w.heap.size w wr ∧
    wr.heap[w.heap.size]? = some (.cells #[.slice (some ⟨bF, oF, none⟩) 2 kF, .slice (some ⟨bA, oA, none⟩) 2 kA, .slice (some ⟨bS, oS, none⟩) 2 kS] 25 (0, 0)) ∧ Hid (∀ g, v.ownBlock = some g → w.heap.size < g)) (fun _ j _ => 2 - (intOf j).toNat)
  case atStart => exact ⟨0, Nat.zero_le _, rfl, (by have h := own_empty (w.alloc (.cells #[.slice (some ⟨bF, oF, none⟩) 2 kF, .slice (some ⟨bA, oA, none⟩) 2 kA, .slice (some ⟨bS, oS, none⟩) 2 kS] 25)) w.heap.size (by simp); simp only [World.size_alloc] at h; exact h), ((Below.refl _ _).alloc (Nat.le_refl _) _).alloc (by simp) _, (heap_alloc_old _ _ (by simp)).trans (heap_alloc_at rfl), Lib.hid fun g e => by simp [Value.ownBlock] at e; omega⟩
  case round =>
    obtain ⟨k, hk, rfl, hown, hB, pB, hne⟩ := hrel
    by_cases hlt : k < 2
    · obtain ⟨j1, j2, j3, j4, q, bX, oX, cX, bY, oY, cY, ⟨l1, l2, l3, l4⟩, c1, c2, c3, c4, c5, c6, c7, hq, m1, m2, m3, m4, m5, m6, m7⟩ := hat.out k hlt
      have up := (bcell hB).1
      rw [← up _ _ m1] at c1
      rw [← up _ _ m2] at c2
      rw [← up _ _ m4] at c3
      rw [← up _ _ m6] at c4
      rw [← up _ _ m3] at c5
      rw [← up _ _ m5] at c6
      rw [← up _ _ m7] at c7
      clear up
      replace hq := Lib.hid hq
      have hsz := hB.size
      have hlB := (Array.getElem?_eq_some_iff.1 pB).1
      obtain ⟨⟨z0, z1, z2⟩, -⟩ := blk3 pB
      have hd2 : decide ((k : Int) < 2) = true := by simp; omega
      obtain ⟨s7, n7, k7, rfl⟩ := (show ∃ a n c, _ = Value.slice a n c from by obtain ⟨a, c, e, -⟩ := hown.ints.out; exact ⟨_, _, _, e⟩)
      go_wp2_with fail
      refine wp_region_rkt (by kernel_rfl) [none, none, none, none, none, none, none, some 24, none, none, none, none, none, none, none, none, none, none, none, none, none, none, none, some 0, some 1, some 2, some 3, some 4, some 5, some 6, some 7, some 8, some 9, some 10, some 11, some 12, some 13, some 14, some 15, some 16, some 17, some 18, some 19, some 20, some 21, some 22, some 23] 23 24 (by kernel_rfl) (by kernel_rfl) (by kernel_rfl) _ _ rfl rfl 7 rfl w.heap.size [rkV (.slice s7 n7 k7), rkV (.pointer (some ⟨w.heap.size, 2, none⟩)), rkV (.slice (some ⟨bS, oS, none⟩) 2 kS), rkV (.int .i64 k), rkV (.pointer (some ⟨bS, oS + k, none⟩)), rkV (.slice (some ⟨bY, oY, none⟩) 4 cY), rkV (.int .i64 j2), rkV (.int .i64 (2 * (j2 : Int))), rkV (.slice (some ⟨bt, ot, none⟩) 2 kt), rkV (.pointer (some ⟨w.heap.size, 1, none⟩)), rkV (.slice (some ⟨bA, oA, none⟩) 2 kA), rkV (.int .i64 k), rkV (.pointer (some ⟨bA, oA + k, none⟩)), rkV (.slice (some ⟨bX, oX, none⟩) 2 cX), rkV (.int .i64 j2), rkV (.pointer (some ⟨bX, oX + j2, none⟩)), rkV (.int .i64 j3), rkV (.pointer (some ⟨bt, ot + j3, none⟩)), rkV (.int .i64 j4), rkV (.int .i64 (2 * (j2 : Int) + j4)), rkV (.pointer (some ⟨bY, oY + (2 * j2 + j4), none⟩)), rkV (.int .i64 q), rkL [q]] _ rfl (by kernel_rfl) (by simp) ?_ ?_
      · intro i o ho hi hi2 u g ww hbw hu2 hd
        replace hu2 : u 24 = .slice s7 n7 k7 := hu2
        have hall : Below w.heap.size w ww := hB.trans (hbw.mono hsz)
        have hlow : w.heap.size ≤ ww.heap.size := hall.size
        obtain ⟨hcl, hfr⟩ := bcell hbw
        have y_z1 := (hcl _ _ (by omega)).trans z1
        have y_z2 := (hcl _ _ (by omega)).trans z2
        have y_c3 := (hcl _ _ (by omega)).trans c3
        have y_c4 := (hcl _ _ (by omega)).trans c4
        have y_c5 := (hcl _ _ (by omega)).trans c5
        have y_c6 := (hcl _ _ (by omega)).trans c6
        have y_c7 := (hcl _ _ (by omega)).trans c7
        clear hcl hfr
        rcases i with _ | _ | _ | _ | _ | _ | _ | _ | _ | _ | _ | _ | _ | _ | _ | _ | _ | _ | _ | _ | _ | _ | _ | _ | _ | i
        all_goals try obtain rfl := Option.some.inj ho
        all_goals try simp only [putAll, fillL]
        · rw [hu2]
          go_wp2
          exact ⟨_, by simp only [putAll, fillL, hu2] <;> rfl, kept0 (Below.refl _ _), rfl⟩
        · go_wp2
          exact ⟨_, by simp only [putAll, fillL, hu2] <;> rfl, kept0 (Below.refl _ _), rfl⟩
        · have e1 : u 1 = .pointer (some ⟨w.heap.size, 2, none⟩) := hd 1 (by decide)
          rw [e1]
          go_wp2
          exact ⟨_, by simp only [putAll, fillL, hu2, e1] <;> rfl, kept0 (Below.refl _ _), rfl⟩
        · go_wp2
          exact ⟨_, by simp only [putAll, fillL, hu2] <;> rfl, kept0 (Below.refl _ _), rfl⟩
        · have e2 : u 2 = .slice (some ⟨bS, oS, none⟩) 2 kS := hd 2 (by decide)
          rw [e2]
          have e3 : u 3 = .int .i64 k := hd 3 (by decide)
          rw [e3]
          go_wp2
          exact ⟨_, by simp only [putAll, fillL, hu2, e2, e3] <;> rfl, kept0 (Below.refl _ _), rfl⟩
        · have e4 : u 4 = .pointer (some ⟨bS, oS + k, none⟩) := hd 4 (by decide)
          rw [e4]
          go_wp2
          exact ⟨_, by simp only [putAll, fillL, hu2, e4] <;> rfl, kept0 (Below.refl _ _), rfl⟩
        · go_wp2
          exact ⟨_, by simp only [putAll, fillL, hu2] <;> rfl, kept0 (Below.refl _ _), rfl⟩
        · have e6 : u 6 = .int .i64 j2 := hd 6 (by decide)
          rw [e6]
          go_wp2
          exact ⟨_, by simp only [putAll, fillL, hu2, e6] <;> rfl, kept0 (Below.refl _ _), rfl⟩
        · go_wp2
          exact ⟨_, by simp only [putAll, fillL, hu2] <;> rfl, kept0 (Below.refl _ _), rfl⟩
        · go_wp2
          exact ⟨_, by simp only [putAll, fillL, hu2] <;> rfl, kept0 (Below.refl _ _), rfl⟩
        · have e9 : u 9 = .pointer (some ⟨w.heap.size, 1, none⟩) := hd 9 (by decide)
          rw [e9]
          go_wp2
          exact ⟨_, by simp only [putAll, fillL, hu2, e9] <;> rfl, kept0 (Below.refl _ _), rfl⟩
        · go_wp2
          exact ⟨_, by simp only [putAll, fillL, hu2] <;> rfl, kept0 (Below.refl _ _), rfl⟩
        · have e10 : u 10 = .slice (some ⟨bA, oA, none⟩) 2 kA := hd 10 (by decide)
          rw [e10]
          have e11 : u 11 = .int .i64 k := hd 11 (by decide)
          rw [e11]
          go_wp2
          exact ⟨_, by simp only [putAll, fillL, hu2, e10, e11] <;> rfl, kept0 (Below.refl _ _), rfl⟩
        · have e12 : u 12 = .pointer (some ⟨bA, oA + k, none⟩) := hd 12 (by decide)
          rw [e12]
          go_wp2
          exact ⟨_, by simp only [putAll, fillL, hu2, e12] <;> rfl, kept0 (Below.refl _ _), rfl⟩
        · go_wp2
          exact ⟨_, by simp only [putAll, fillL, hu2] <;> rfl, kept0 (Below.refl _ _), rfl⟩
        · have e13 : u 13 = .slice (some ⟨bX, oX, none⟩) 2 cX := hd 13 (by decide)
          rw [e13]
          have e14 : u 14 = .int .i64 j2 := hd 14 (by decide)
          rw [e14]
          go_wp2
          exact ⟨_, by simp only [putAll, fillL, hu2, e13, e14] <;> rfl, kept0 (Below.refl _ _), rfl⟩
        · have e15 : u 15 = .pointer (some ⟨bX, oX + j2, none⟩) := hd 15 (by decide)
          rw [e15]
          go_wp2
          exact ⟨_, by simp only [putAll, fillL, hu2, e15] <;> rfl, kept0 (Below.refl _ _), rfl⟩
        · have e8 : u 8 = .slice (some ⟨bt, ot, none⟩) 2 kt := hd 8 (by decide)
          rw [e8]
          have e16 : u 16 = .int .i64 j3 := hd 16 (by decide)
          rw [e16]
          go_wp2
          exact ⟨_, by simp only [putAll, fillL, hu2, e8, e16] <;> rfl, kept0 (Below.refl _ _), rfl⟩
        · have e17 : u 17 = .pointer (some ⟨bt, ot + j3, none⟩) := hd 17 (by decide)
          rw [e17]
          go_wp2
          exact ⟨_, by simp only [putAll, fillL, hu2, e17] <;> rfl, kept0 (Below.refl _ _), rfl⟩
        · have e7 : u 7 = .int .i64 (2 * (j2 : Int)) := hd 7 (by decide)
          rw [e7]
          have e18 : u 18 = .int .i64 j4 := hd 18 (by decide)
          rw [e18]
          go_wp2
          exact ⟨_, by simp only [putAll, fillL, hu2, e7, e18] <;> rfl, kept0 (Below.refl _ _), rfl⟩
        · have e5 : u 5 = .slice (some ⟨bY, oY, none⟩) 4 cY := hd 5 (by decide)
          rw [e5]
          have e19 : u 19 = .int .i64 (2 * (j2 : Int) + j4) := hd 19 (by decide)
          rw [e19]
          go_wp2
          exact ⟨_, by simp only [putAll, fillL, hu2, e5, e19] <;> rfl, kept0 (Below.refl _ _), rfl⟩
        · have e20 : u 20 = .pointer (some ⟨bY, oY + (2 * j2 + j4), none⟩) := hd 20 (by decide)
          rw [e20]
          go_wp2
          exact ⟨_, by simp only [putAll, fillL, hu2, e20] <;> rfl, kept0 (Below.refl _ _), rfl⟩
        · have e21 : u 21 = .int .i64 q := hd 21 (by decide)
          rw [e21]
          go_wp2
          exact ⟨_, by simp only [putAll, fillL, hu2, e21] <;> rfl, kept0 ((Below.refl _ _).alloc (Nat.le_refl _) _), own_nums ww w.heap.size [q] _ 1 rfl rfl hlow (by simp)⟩
        · exact absurd rfl hi
        · exact absurd rfl hi2
        · simp at ho
      · intro u g w5 hbw hu2 hR hAp
        have R22 : OwnF w5 w.heap.size (InI (g 22)) (u 22) [q] := hR 22 (by decide) (by decide) (by decide)
        have e0 : u 0 = .slice s7 n7 k7 := hR 0 (by decide) (by decide) (by decide)
        have rd := R22.rd
        obtain ⟨p22, q22, e22, -⟩ := id rd.out
        replace hu2 : u 24 = .slice s7 n7 k7 := hu2
        have hown5 := hown.below hbw
        have hB5 := hB.trans (hbw.mono hsz)
        have pB5 := blk_later hbw pB
        have hsz5 := hbw.size
        clear hR hAp R22 c1 c2 c3 c4 c5 c6 c7 z0 z1 z2 hbw hown hB pB
        simp only [putAll, fillL]
        rw [hu2, e22, e0]
        rw [e22] at rd
        refine wp_append_intsG w5 rfl (.tmp 23) (.tmp 45) rfl w.heap.size _ _ rfl hown5 _ [q] rfl rd (by simp) (by rw [mapR_len]; simp; omega) (by omega) ?_
        intro v' w6 h6 hgr hne6 hblk
        rw [hq.out, ← mapR_succ] at h6
        have hk6 := grown_kept hgr
        have hB6 := hB5.trans (hk6.below (fun g e => by have := hne.out g e; omega) (by omega))
        have pB6 := (hk6.block _ (by omega) (fun e => by have := hne.out _ e; omega)).trans pB5
        have hne7 : Hid (∀ g, v'.ownBlock = some g → w.heap.size < g) := Lib.hid fun g e => by
          rcases hblk with hh | hh
          · rw [hh] at e; exact hne.out g e
          · rw [hh] at e; cases e; omega
        clear hblk hgr hk6 hB5 pB5 hown5
        go_wp2
        go_roundw
        case rel => exact ⟨k + 1, by omega, by go_num, h6, hB6, pB6, hne7⟩
        case measure => simp [intOf]; omega
    · obtain rfl : k = 2 := by omega
      go_wp2
      go_ret
      exact ⟨_, rfl, hown, hB⟩

set_option maxHeartbeats 2000000 in
theorem c_spec_PlayThrough_no (v t1 t2 : Value) (r : RuleD) (one two : List Int) (w : World) (h : RuleR w v r) (ho : Ints w t1 one) (ht : Ints w t2 two) (hn : (ruleB r && (bitsB 2 one && bitsB 2 two)) = false) :
    Calls Try.prog 33 #[v, t1, t2] w fun e w' => ∃ v', e = .returned (.tuple #[v', .bool false]) ∧ OwnI w' w.heap.size v' [] ∧ Below w.heap.size w w' := by
  obtain ⟨v1, n1, k1, v2, n2, k2, v3, n3, k3, rfl⟩ := h.shape
  obtain ⟨a1, c1, rfl, -, -⟩ := ho.out
  obtain ⟨a2, c2, rfl, -, -⟩ := ht.out
  have hA := (Below.refl w.heap.size w).alloc (Nat.le_refl _) (.cells #[.slice v1 n1 k1, .slice v2 n2 k2, .slice v3 n3 k3] 25)
  cases hr : ruleB r
  · have hr := Lib.hid hr
    clear hn
    go_enter Try.func33, Try.ntmps33
    go_wp2_with fail
    refine (c_l10Rule _ r _ (h.below hA)).mono ?_
    rintro e w1 ⟨rfl, hb⟩
    rw [hr.out]
    have hA1 := hA.trans (hb.mono (by simp))
    have hz := hA1.size
    go_wp2
    go_ret2
    exact ⟨_, rfl, own_empty _ _ hz, hA1.alloc hz _⟩
  · cases hb1 : bitsB 2 one
    · have hr := Lib.hid hr
      have hb1 := Lib.hid hb1
      clear hn
      go_enter Try.func33, Try.ntmps33
      go_wp2_with fail
      refine (c_l10Rule _ r _ (h.below hA)).mono ?_
      rintro e w1 ⟨rfl, hb⟩
      rw [hr.out]
      have hA1 := hA.trans (hb.mono (by simp))
      have hz := hA1.size
      go_wp2_with fail
      refine (c_l2Bits _ one 2 _ (ho.below hA1)).mono ?_
      rintro e _ ⟨rfl, rfl⟩
      rw [hb1.out]
      go_wp2
      go_ret2
      exact ⟨_, rfl, own_empty _ _ hz, hA1.alloc hz _⟩
    · have hb2 : bitsB 2 two = false := by simpa [hr, hb1] using hn
      have hr := Lib.hid hr
      have hb1 := Lib.hid hb1
      have hb2 := Lib.hid hb2
      clear hn
      go_enter Try.func33, Try.ntmps33
      go_wp2_with fail
      refine (c_l10Rule _ r _ (h.below hA)).mono ?_
      rintro e w1 ⟨rfl, hb⟩
      rw [hr.out]
      have hA1 := hA.trans (hb.mono (by simp))
      have hz := hA1.size
      go_wp2_with fail
      refine (c_l2Bits _ one 2 _ (ho.below hA1)).mono ?_
      rintro e _ ⟨rfl, rfl⟩
      rw [hb1.out]
      go_wp2_with fail
      refine (c_l2Bits _ two 2 _ (ht.below hA1)).mono ?_
      rintro e _ ⟨rfl, rfl⟩
      rw [hb2.out]
      go_wp2
      go_ret2
      exact ⟨_, rfl, own_empty _ _ hz, hA1.alloc hz _⟩
set_option maxHeartbeats 2000000 in
theorem c_impl_PlayThrough_no (v t1 t2 : Value) (r : RuleD) (one two : List Int) (w : World) (h : RuleR w v r) (ho : Ints w t1 one) (ht : Ints w t2 two) (hn : (ruleB r && (bitsB 2 one && bitsB 2 two)) = false) :
    Calls Try.prog 34 #[v, t1, t2] w fun e w' => ∃ v', e = .returned (.tuple #[v', .bool false]) ∧ OwnI w' w.heap.size v' [] ∧ Below w.heap.size w w' := by
  obtain ⟨v1, n1, k1, v2, n2, k2, v3, n3, k3, rfl⟩ := h.shape
  obtain ⟨a1, c1, rfl, -, -⟩ := ho.out
  obtain ⟨a2, c2, rfl, -, -⟩ := ht.out
  have hA := (Below.refl w.heap.size w).alloc (Nat.le_refl _) (.cells #[.slice v1 n1 k1, .slice v2 n2 k2, .slice v3 n3 k3] 25)
  cases hr : ruleB r
  · have hr := Lib.hid hr
    clear hn
    go_enter Try.func34, Try.ntmps34
    go_wp2_with fail
    refine (c_impl_IsRule _ r _ (h.below hA)).mono ?_
    rintro e w1 ⟨rfl, hb⟩
    rw [hr.out]
    have hA1 := hA.trans (hb.mono (by simp))
    have hz := hA1.size
    go_wp2
    go_ret2
    exact ⟨_, rfl, own_nil _ _, hA1⟩
  · cases hb1 : bitsB 2 one
    · have hr := Lib.hid hr
      have hb1 := Lib.hid hb1
      clear hn
      go_enter Try.func34, Try.ntmps34
      go_wp2_with fail
      refine (c_impl_IsRule _ r _ (h.below hA)).mono ?_
      rintro e w1 ⟨rfl, hb⟩
      rw [hr.out]
      have hA1 := hA.trans (hb.mono (by simp))
      have hz := hA1.size
      go_wp2_with fail
      refine (c_isBits _ one 2 _ (ho.below hA1)).mono ?_
      rintro e _ ⟨rfl, rfl⟩
      rw [hb1.out]
      go_wp2
      go_ret2
      exact ⟨_, rfl, own_nil _ _, hA1⟩
    · have hb2 : bitsB 2 two = false := by simpa [hr, hb1] using hn
      have hr := Lib.hid hr
      have hb1 := Lib.hid hb1
      have hb2 := Lib.hid hb2
      clear hn
      go_enter Try.func34, Try.ntmps34
      go_wp2_with fail
      refine (c_impl_IsRule _ r _ (h.below hA)).mono ?_
      rintro e w1 ⟨rfl, hb⟩
      rw [hr.out]
      have hA1 := hA.trans (hb.mono (by simp))
      have hz := hA1.size
      go_wp2_with fail
      refine (c_isBits _ one 2 _ (ho.below hA1)).mono ?_
      rintro e _ ⟨rfl, rfl⟩
      rw [hb1.out]
      go_wp2_with fail
      refine (c_isBits _ two 2 _ (ht.below hA1)).mono ?_
      rintro e _ ⟨rfl, rfl⟩
      rw [hb2.out]
      go_wp2
      go_ret2
      exact ⟨_, rfl, own_nil _ _, hA1⟩

set_option maxHeartbeats 2000000 in
theorem c_spec_PlayThrough (v t1 t2 : Value) (r : RuleD) (one two : List Int) (w : World) (h : RuleR w v r) (ho : Ints w t1 one) (ht : Ints w t2 two) :
    Calls Try.prog 33 #[v, t1, t2] w fun e w' => ∃ v', e = .returned (.tuple #[v', .bool (ruleB r && (bitsB 2 one && bitsB 2 two))]) ∧ OwnI w' w.heap.size v' (playL r one two) ∧ Below w.heap.size w w' := by
  cases hn : (ruleB r && (bitsB 2 one && bitsB 2 two))
  · have e : playL r one two = [] := by simp only [playL, hn]; rfl
    rw [e]
    exact c_spec_PlayThrough_no v t1 t2 r one two w h ho ht hn
  · have e : playL r one two = mapR (thrF r one two) 2 := by simp only [playL, hn]; rfl
    rw [e]
    simp only [Bool.and_eq_true] at hn
    obtain ⟨hr, hb1, hb2⟩ := hn
    obtain ⟨v1, n1, k1, v2, n2, k2, v3, n3, k3, rfl⟩ := h.shape
    obtain ⟨a1, c1, rfl, -, -⟩ := ho.out
    obtain ⟨a2, c2, rfl, -, -⟩ := ht.out
    have hA := (Below.refl w.heap.size w).alloc (Nat.le_refl _) (.cells #[.slice v1 n1 k1, .slice v2 n2 k2, .slice v3 n3 k3] 25)
    have hr := Lib.hid hr
    have hb1 := Lib.hid hb1
    have hb2 := Lib.hid hb2
    clear e
    go_enter Try.func33, Try.ntmps33
    go_wp2_with fail
    refine (c_l10Rule _ r _ (h.below hA)).mono ?_
    rintro e w1 ⟨rfl, hb⟩
    rw [hr.out]
    have hA1 := hA.trans (hb.mono (by simp))
    have hz := hA1.size
    have p0 : w1.heap[w.heap.size]? = some (.cells #[.slice v1 n1 k1, .slice v2 n2 k2, .slice v3 n3 k3] 25 (0, 0)) := blk_later hb (heap_alloc_at rfl)
    obtain ⟨⟨z0, z1, z2⟩, -⟩ := blk3 p0
    go_wp2_with fail
    refine (c_l2Bits _ one 2 _ (ho.below hA1)).mono ?_
    rintro e _ ⟨rfl, rfl⟩
    rw [hb1.out]
    go_wp2_with fail
    refine (c_l2Bits _ two 2 _ (ht.below hA1)).mono ?_
    rintro e _ ⟨rfl, rfl⟩
    rw [hb2.out]
    go_wp2_with fail
    refine (c_l10Through _ _ _ r one two _ (h.below hA1) (ho.below hA1) (ht.below hA1) hr.out hb1.out hb2.out).mono ?_
    rintro e w2 ⟨vo, rfl, hvo, hb2'⟩
    go_wp2
    go_ret2
    exact ⟨_, rfl, hvo.mono hz, bstep hA1 hb2'⟩

set_option maxHeartbeats 4000000 in
theorem c_impl_PlayThrough_yes (v t1 t2 : Value) (r : RuleD) (one two : List Int) (w : World) (h : RuleR w v r) (ho : Ints w t1 one) (ht : Ints w t2 two) (hr : ruleB r = true) (hb1 : bitsB 2 one = true) (hb2 : bitsB 2 two = true) :
    Calls Try.prog 34 #[v, t1, t2] w fun e w' => ∃ v', e = .returned (.tuple #[v', .bool true]) ∧ OwnI w' w.heap.size v' (mapR (thrF r one two) 2) ∧ Below w.heap.size w w' := by
  obtain ⟨f, x0, x1, y0, y1, rfl, ⟨lf, -⟩, -⟩ := rule_parts hr
  obtain ⟨v1, v2, v3, rfl, h1, h2, h3⟩ := id h
  obtain ⟨_, kF, rfl, -, -⟩ := h1.out
  obtain ⟨bF, oF, rfl, -, -⟩ := h1.at 0 (show 0 < f.length by omega)
  obtain ⟨_, kA, rfl, -⟩ := h2.out
  obtain ⟨bA, oA, _, _, rfl, -, -, -⟩ := h2.at 0 (by simp)
  obtain ⟨_, kS, rfl, -⟩ := h3.out
  obtain ⟨bS, oS, _, _, rfl, -, -, -⟩ := h3.at 0 (by simp)
  have lo := (bitsB_len (n := 2) hb1).1
  have lt := (bitsB_len (n := 2) hb2).1
  obtain ⟨_, ko, rfl, -, -⟩ := ho.out
  obtain ⟨bo, oo, rfl, -, -⟩ := ho.at 0 (by omega)
  obtain ⟨_, kt, rfl, -, -⟩ := ht.out
  obtain ⟨bt, ot, rfl, -, -⟩ := ht.at 0 (by omega)
  rw [lf] at h1
  rw [lo] at ho ⊢
  rw [lt] at ht ⊢
  replace lf : f.length = 2 := lf
  have hat := through_at hr hb1 hb2 h1 ho ht h2 h3
  replace h : RuleR w (.agg #[.slice (some ⟨bF, oF, none⟩) 2 kF, .slice (some ⟨bA, oA, none⟩) 2 kA, .slice (some ⟨bS, oS, none⟩) 2 kS]) ⟨f, [x0, x1], [y0, y1]⟩ := ⟨_, _, _, rfl, h1, h2, h3⟩
  replace hat := Lib.hid hat
  have hA := (Below.refl w.heap.size w).alloc (Nat.le_refl _) (.cells #[.slice (some ⟨bF, oF, none⟩) 2 kF, .slice (some ⟨bA, oA, none⟩) 2 kA, .slice (some ⟨bS, oS, none⟩) 2 kS] 25)
  rw [lf]
  replace lf := Lib.hid lf
  replace lo := Lib.hid lo
  replace lt := Lib.hid lt
  replace hr := Lib.hid hr
  replace hb1 := Lib.hid hb1
  replace hb2 := Lib.hid hb2
  go_enter Try.func34, Try.ntmps34
  go_wp2_with fail
  refine (c_impl_IsRule _ ⟨f, [x0, x1], [y0, y1]⟩ _ (h.below hA)).mono ?_
  rintro e w1 ⟨rfl, hb⟩
  rw [hr.out]
  have hA1 := hA.trans (hb.mono (by simp))
  have hz := hb.size
  simp only [World.size_alloc] at hz
  have p0 : w1.heap[w.heap.size]? = some (.cells #[.slice (some ⟨bF, oF, none⟩) 2 kF, .slice (some ⟨bA, oA, none⟩) 2 kA, .slice (some ⟨bS, oS, none⟩) 2 kS] 25 (0, 0)) := blk_later hb (heap_alloc_at rfl)
  go_wp2_with fail
  refine (c_isBits _ one 2 _ (ho.below hA1)).mono ?_
  rintro e _ ⟨rfl, rfl⟩
  rw [hb1.out]
  go_wp2_with fail
  refine (c_isBits _ two 2 _ (ht.below hA1)).mono ?_
  rintro e _ ⟨rfl, rfl⟩
  rw [hb2.out]
  go_wp2_with fail
  go_loopw [8, 26] (fun v j wr => ∃ k : Nat, k ≤ 2 ∧ j = .int .i64 k ∧ OwnI wr w1.heap.size v (mapR (thrF ⟨f, [x0, x1], [y0, y1]⟩ one two) k) ∧ Below w1.heap.size w1 wr) (fun _ j _ => 2 - (intOf j).toNat)
  case atStart => exact ⟨0, Nat.zero_le _, rfl, own_empty _ _ (Nat.le_refl _), (Below.refl _ _).alloc (Nat.le_refl _) _⟩
  case round =>
    obtain ⟨k, hk, rfl, hown, hB⟩ := hrel
    have hall := bstep hA1 hB
    by_cases hlt : k < 2
    · obtain ⟨j1, j2, j3, j4, q, bX, oX, cX, bY, oY, cY, ⟨l1, l2, l3, l4⟩, c1, c2, c3, c4, c5, c6, c7, hq, m1, m2, m3, m4, m5, m6, m7⟩ := hat.out k hlt
      have up := (bcell hall).1
      rw [← up _ _ m1] at c1
      rw [← up _ _ m2] at c2
      rw [← up _ _ m4] at c3
      rw [← up _ _ m6] at c4
      rw [← up _ _ m3] at c5
      rw [← up _ _ m5] at c6
      rw [← up _ _ m7] at c7
      clear up
      replace hq := Lib.hid hq
      obtain ⟨⟨z0, z1, z2⟩, -⟩ := blk3 (blk_later hB p0)
      have hszB := hB.size
      go_wp2_with (at_builtin; refine wp_append_int _ _ rfl _ _ rfl w1.heap.size _ _ rfl hown rfl (by first | rfl | simp) (by rw [mapR_len]; omega) hszB ?_; intro v' w6 hown2 _ hB2 _)
      rw [hq.out, ← mapR_succ] at hown2
      go_roundw
      case rel => exact ⟨k + 1, by omega, by go_num, hown2, hB.trans hB2⟩
      case measure => simp [intOf]; omega
    · obtain rfl : k = 2 := by omega
      go_wp2
      go_ret2
      exact ⟨_, rfl, hown.mono (by omega), hall⟩

theorem c_impl_PlayThrough (v t1 t2 : Value) (r : RuleD) (one two : List Int) (w : World) (h : RuleR w v r) (ho : Ints w t1 one) (ht : Ints w t2 two) :
    Calls Try.prog 34 #[v, t1, t2] w fun e w' => ∃ v', e = .returned (.tuple #[v', .bool (ruleB r && (bitsB 2 one && bitsB 2 two))]) ∧ OwnI w' w.heap.size v' (playL r one two) ∧ Below w.heap.size w w' := by
  cases hn : (ruleB r && (bitsB 2 one && bitsB 2 two))
  · have e : playL r one two = [] := by simp only [playL, hn]; rfl
    rw [e]
    exact c_impl_PlayThrough_no v t1 t2 r one two w h ho ht hn
  · have e : playL r one two = mapR (thrF r one two) 2 := by simp only [playL, hn]; rfl
    rw [e]
    simp only [Bool.and_eq_true] at hn
    exact c_impl_PlayThrough_yes v t1 t2 r one two w h ho ht hn.1 hn.2.1 hn.2.2

end Go.Proofs.Ytikfddppjalfdaa
