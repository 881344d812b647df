/- Parity proofs: whether a list of places is one, and which list comes before another; conditions: none. -/
import Derived.Test.YtiidphlfpiaoeaaKeptI
import Derived.WalkSpells
namespace Go.Proofs.Ytiidphlfpiaoeaa
open Go.RowKit

theorem ofInt_i64 (a : Nat) (ha : a < 4611686018427387904) : (BitVec.ofInt 64 (a : Int)).toNat = a := by
  rw [BitVec.ofInt_natCast, BitVec.toNat_ofNat]; exact Nat.mod_eq_of_lt (by omega)
theorem i64_or_nat (a b : Nat) (ha : a < 4611686018427387904) (hb : b < 4611686018427387904) : bits .or .i64 (a : Int) (b : Int) = ((a ||| b : Nat) : Int) := by
  have hx : a ||| b < 2 ^ 62 := Nat.or_lt_two_pow (by omega) (by omega)
  show IntKind.i64.wrap ((BitVec.ofInt 64 (a : Int) ||| BitVec.ofInt 64 (b : Int)).toNat : Int) = _
  rw [BitVec.toNat_or, ofInt_i64 a ha, ofInt_i64 b hb]
  exact wraps_i64 _ (by omega) (by omega)
theorem i64_xor_nat (a b : Nat) (ha : a < 4611686018427387904) (hb : b < 4611686018427387904) : bits .xor .i64 (a : Int) (b : Int) = ((a ^^^ b : Nat) : Int) := by
  have hx : a ^^^ b < 2 ^ 62 := Nat.xor_lt_two_pow (by omega) (by omega)
  show IntKind.i64.wrap ((BitVec.ofInt 64 (a : Int) ^^^ BitVec.ofInt 64 (b : Int)).toNat : Int) = _
  rw [BitVec.toNat_xor, ofInt_i64 a ha, ofInt_i64 b hb]
  exact wraps_i64 _ (by omega) (by omega)
theorem shl_small (q : Nat) (hq : q < 12) : wrap64 ((2 : Int) ^ q) = ((2 ^ q : Nat) : Int) ∧ 2 ^ q ≤ 4096 := by
  have : ∀ q : Nat, q < 12 → wrap64 ((2 : Int) ^ q) = ((2 ^ q : Nat) : Int) ∧ 2 ^ q ≤ 4096 := by decide +kernel
  exact this q hq
theorem or_shlI (m q : Nat) (hm : m < 4096) (hq : q < 12) : bits BinOp.or IntKind.i64 (m : Int) (wrap64 ((2 : Int) ^ q)) = ((m ||| 2 ^ q : Nat) : Int) := by
  have h := shl_small q hq
  rw [h.1, i64_or_nat _ _ (by omega) (by have := h.2; omega)]

/-- the rows of the places of a list, added without carry -/
def xorN (s : SceneD) : List Int → Nat → Nat
  | [], a => a
  | i :: l, a => xorN s l (a ^^^ (masksL s).getD i.toNat 0)
theorem xorN_snoc (s : SceneD) (l : List Int) (i : Int) (a : Nat) : xorN s (l ++ [i]) a = xorN s l a ^^^ (masksL s).getD i.toNat 0 := by
  induction l generalizing a with
  | nil => rfl
  | cons x l ih => exact ih _
def sumS (s : SceneD) (l : List Int) : Int := (l.map fun i => s.s.getD i.toNat 0).sum
theorem sumS_snoc (s : SceneD) (l : List Int) (i : Int) : sumS s (l ++ [i]) = sumS s l + s.s.getD i.toNat 0 := by simp [sumS]
theorem sumS_bound (s : SceneD) (l : List Int) (h : ∀ q ∈ s.s, 0 ≤ q ∧ q ≤ 1) : 0 ≤ sumS s l ∧ sumS s l ≤ l.length := by
  induction l with
  | nil => simp [sumS]
  | cons e c ih =>
    have hx : 0 ≤ s.s.getD e.toNat 0 ∧ s.s.getD e.toNat 0 ≤ 1 := by
      by_cases hl : e.toNat < s.s.length
      · rw [List.getD, List.getElem?_eq_getElem hl]; exact h _ (List.getElem_mem hl)
      · rw [List.getD, List.getElem?_eq_none (by omega)]; simp
    simp only [sumS, List.map_cons, List.sum_cons, List.length_cons] at ih ⊢
    omega
def proofB (s : SceneD) (l : List Int) : Bool := (((xorN s l 0 : Nat) : Int) == 0) && (sumS s l % 2 == 1)
theorem mask_lt {s : SceneD} (hs : sceneB s = true) (i : Nat) : (masksL s).getD i 0 < 4096 := by
  by_cases hi : i < s.c.length
  · obtain ⟨n, e, hn⟩ := scene_n hs
    have h2 := (scene_ctx hs i hi).2
    have : (masksL s).getD i 0 = maskN s.c[i] 0 := by simp [masksL, List.getD, hi]
    rw [this]
    exact maskN_lt _ _ 12 (by decide) fun q hq => by have := risB_mem h2 q hq; omega
  · rw [List.getD, List.getElem?_eq_none (by simp [masksL]; omega)]; decide
theorem xorN_lt {s : SceneD} (hs : sceneB s = true) (l : List Int) (a : Nat) (ha : a < 2 ^ 12) : xorN s l a < 2 ^ 12 := by
  induction l generalizing a with
  | nil => exact ha
  | cons x l ih => exact ih _ (Nat.xor_lt_two_pow ha (mask_lt hs _))

/-- the order of lists of one length -/
def cmp3 : List Int → List Int → Int
  | x :: a, y :: b => if x < y then -1 else if y < x then 1 else cmp3 a b
  | _, _ => 0
theorem cmp3_lt (a b : List Int) (k : Nat) (ha : k < a.length) (hb : k < b.length) (h : a[k] < b[k]) : cmp3 (a.drop k) (b.drop k) = -1 := by
  rw [List.drop_eq_getElem_cons ha, List.drop_eq_getElem_cons hb]
  simp [cmp3, h]
theorem cmp3_gt (a b : List Int) (k : Nat) (ha : k < a.length) (hb : k < b.length) (h : b[k] < a[k]) : cmp3 (a.drop k) (b.drop k) = 1 := by
  rw [List.drop_eq_getElem_cons ha, List.drop_eq_getElem_cons hb]
  have : ¬ a[k] < b[k] := by omega
  simp [cmp3, h, this]
theorem cmp3_eq (a b : List Int) (k : Nat) (ha : k < a.length) (hb : k < b.length) (h : a[k] = b[k]) : cmp3 (a.drop k) (b.drop k) = cmp3 (a.drop (k + 1)) (b.drop (k + 1)) := by
  rw [List.drop_eq_getElem_cons ha, List.drop_eq_getElem_cons hb]
  simp [cmp3, h]
theorem cmp3_end (a b : List Int) (k : Nat) (ha : a.length ≤ k) : cmp3 (a.drop k) (b.drop k) = 0 := by
  rw [List.drop_eq_nil_of_le ha]; simp [cmp3]
def befB (a b : List Int) : Bool := if a.length = b.length then decide (cmp3 a b < 0) else decide (a.length < b.length)
def betterB (s : SceneD) (l best : List Int) : Bool := proofB s l && ((best.length : Int) == 0 || befB l best)
/-- the places with the bit 1 -/
def plL (s : SceneD) (code : Nat) : List Int := placesL (fun i => bitAt i code == 1) s.c.length
def bestP (s : SceneD) : Nat → List Int
  | 0 => []
  | k + 1 => if betterB s (plL s k) (bestP s k) then plL s k else bestP s k
theorem bestP_yes {s : SceneD} {k : Nat} (h : betterB s (plL s k) (bestP s k) = true) : bestP s (k + 1) = plL s k := by simp [bestP, h]
theorem bestP_no {s : SceneD} {k : Nat} (h : betterB s (plL s k) (bestP s k) = false) : bestP s (k + 1) = bestP s k := by simp [bestP, h]
theorem plL_zero (s : SceneD) : plL s 0 = [] := by
  unfold plL
  generalize s.c.length = m
  induction m with
  | zero => rfl
  | succ m ih => rw [placesL_no (by simp [bitAt]), ih]
theorem bestP_one (s : SceneD) : bestP s 1 = [] := by
  have : proofB s [] = false := by simp [proofB, sumS]
  simp [bestP, betterB, plL_zero, this]
theorem plL_mem (s : SceneD) (code : Nat) : ∀ i ∈ plL s code, 0 ≤ i ∧ i < s.c.length := by
  intro i hi
  unfold plL placesL at hi
  simp only [List.mem_map, List.mem_filter, List.mem_range] at hi
  obtain ⟨j, ⟨h1, -⟩, rfl⟩ := hi
  omega
theorem proof_pos {s : SceneD} {l : List Int} (h : proofB s l = true) : 0 < l.length := by
  rcases l with _ | ⟨x, l⟩
  · simp [proofB, sumS] at h
  · simp

set_option maxRecDepth 100000 in
set_option maxHeartbeats 2000000 in
theorem c_l7Rows (v : Value) (s : SceneD) (w : World) (h : SceneR w v s) (hs : sceneB s = true) :
    Calls Try.prog 80 #[v] w fun e w' => ∃ v', e = .returned v' ∧ OwnI w' w.heap.size v' ((masksL s).map fun x : Nat => (x : Int)) ∧ Below w.heap.size w w' := by
  obtain ⟨v1, v2, rfl, hc, hsu⟩ := id h
  obtain ⟨a1, k1, rfl, l1⟩ := hc.out
  obtain ⟨a2, k2, rfl, l2, -⟩ := hsu.out
  have hA := (Below.refl w.heap.size w).alloc (Nat.le_refl _) (.cells #[.int .i64 s.n, .slice a1 s.c.length k1, .slice a2 s.s.length k2] 27)
  obtain ⟨n10, -, -⟩ := scene_len hs
  have hX : ∀ k (hk : k < s.c.length), (∀ e ∈ s.c[k], 0 ≤ e ∧ e < 12) ∧ s.c[k].length ≤ 12 := by
    intro k hk
    obtain ⟨n, e, hn⟩ := scene_n hs
    have h1 := (scene_ctx hs k hk).2
    rw [e] at h1
    refine ⟨fun q hq => ?_, Nat.le_trans (risB_len h1) hn⟩
    have := risB_mem h1 q hq
    omega
  replace hX := Lib.hid hX
  replace hs := Lib.hid hs
  go_enter Try.func80, Try.ntmps80
  go_wp2_with fail
  go_loopw [3, 4] (fun v j wr => ∃ k : Nat, k ≤ s.c.length ∧ j = .int .i64 k ∧ OwnI wr (w.heap.size + 1) v ((s.c.take k).map fun c => ((maskN c 0 : Nat) : Int)) ∧ Below (w.heap.size + 1) (w.alloc (.cells #[.int .i64 s.n, .slice a1 s.c.length k1, .slice a2 s.s.length k2] 27)) wr) (fun _ j _ => s.c.length - (intOf j).toNat)
  case atStart => exact ⟨0, Nat.zero_le _, rfl, (by have h := own_empty (w.alloc (.cells #[.int .i64 s.n, .slice a1 s.c.length k1, .slice a2 s.s.length k2] 27)) (w.heap.size + 1) (by simp); simp only [World.size_alloc] at h; exact h), (Below.refl _ _).alloc (by simp) _⟩
  case round =>
    obtain ⟨k, hk, rfl, hown, hB⟩ := hrel
    have hall : Below w.heap.size w wr := hA.trans (hB.mono (by omega))
    have hsz := hB.size
    simp only [World.size_alloc] at hsz
    have pB : wr.heap[w.heap.size]? = some (.cells #[.int .i64 s.n, .slice a1 s.c.length k1, .slice a2 s.s.length k2] 27 (0, 0)) := (hB.block _ (by omega)).trans (heap_alloc_at rfl)
    obtain ⟨⟨z0, z1, z2⟩, -⟩ := blk3 pB
    by_cases hlt : k < s.c.length
    · obtain ⟨wo, rfl⟩ : ∃ wo : World, wo = wr := ⟨_, rfl⟩
      obtain ⟨bl, off, a0, c0, rfl, hb, hcell, hi⟩ := (hc.below hall).at k hlt
      obtain ⟨X1, X2⟩ := hX.out k hlt
      obtain ⟨c, hcx⟩ : ∃ c, c = s.c[k] := ⟨_, rfl⟩
      rw [← hcx] at hcell hi X1 X2
      replace hcx := Lib.hid hcx
      replace X1 := Lib.hid X1
      have hd : decide ((k : Int) < (s.c.length : Int)) = true := by simp; omega
      go_wp2
      go_loop [5, 6] (fun m i => ∃ j : Nat, j ≤ c.length ∧ i = .int .i64 j ∧ m = .int .i64 ((maskN (c.take j) 0 : Nat) : Int)) (fun _ i => c.length - (intOf i).toNat)
      case atStart => exact ⟨0, Nat.zero_le _, rfl, rfl⟩
      case round =>
        obtain ⟨j, hj, rfl, rfl⟩ := hrel
        by_cases hltj : j < c.length
        · obtain ⟨bi, oi, rfl, hbi, hcelli⟩ := hi.at j hltj
          obtain ⟨e0, e1⟩ := X1.out c[j] (List.getElem_mem hltj)
          obtain ⟨q, hq⟩ := Int.eq_ofNat_of_zero_le e0
          have hq12 : q < 12 := by omega
          rw [hq] at hcelli
          have hm : maskN (c.take j) 0 < 2 ^ 12 := maskN_lt _ _ 12 (by decide) fun e he => X1.out e (List.mem_of_mem_take he)
          have hm : maskN (c.take j) 0 < 4096 := hm
          clear e0 e1
          replace hq := Lib.hid hq
          have hF : Hid (((maskN (c.take (j + 1)) 0 : Nat) : Int) = bits BinOp.or IntKind.i64 (maskN (c.take j) 0 : Int) (wrap64 ((2 : Int) ^ q))) := Lib.hid (by
            rw [or_shlI _ q hm hq12, List.take_succ_eq_append_getElem hltj, maskN_snoc, hq.out]; rfl)
          go_wp2
          go_round
          case rel => exact ⟨j + 1, by omega, by go_num, by rw [hF.out]⟩
          case measure => simp [intOf]; omega
        · obtain rfl : j = c.length := by omega
          have hF : Hid ((s.c.take (k + 1)).map (fun c => ((maskN c 0 : Nat) : Int)) = (s.c.take k).map (fun c => ((maskN c 0 : Nat) : Int)) ++ [((maskN c 0 : Nat) : Int)]) := Lib.hid (by
            rw [List.take_succ_eq_append_getElem hlt, List.map_append, hcx.out]; simp)
          go_wp2_with (at_builtin; refine wp_append_int _ _ rfl _ _ rfl (w.heap.size + 1) _ _ rfl hown rfl (by first | rfl | simp) (by simp; omega) hsz ?_; intro v' w2 hown2 _ hB2 _)
          rw [← hF.out] at hown2
          go_roundw
          case rel => exact ⟨k + 1, by omega, by go_num, hown2, hB.trans hB2⟩
          case measure => simp [intOf]; omega
    · obtain rfl : k = s.c.length := by omega
      go_wp2
      go_ret
      exact ⟨_, rfl, by have := hown.mono (show w.heap.size ≤ w.heap.size + 1 by omega); simpa [masksL, Function.comp_def] using this, hall⟩

set_option maxRecDepth 100000 in
set_option maxHeartbeats 2000000 in
theorem c_l7Proof (v u : Value) (s : SceneD) (l : List Int) (w : World) (h : SceneR w v s) (g : Ints w u l) (hs : sceneB s = true) (hl : ∀ i ∈ l, 0 ≤ i ∧ i < s.c.length) (hn : l.length ≤ 1000) :
    Calls Try.prog 77 #[v, u] w fun e w' => e = .returned (.bool (proofB s l)) ∧ Below w.heap.size w w' := by
  obtain ⟨v1, v2, rfl, hc, hsu⟩ := id h
  obtain ⟨a1, k1, rfl, l1⟩ := hc.out
  obtain ⟨a2, k2, rfl, l2, -⟩ := hsu.out
  have hA := (Below.refl w.heap.size w).alloc (Nat.le_refl _) (.cells #[.int .i64 s.n, .slice a1 s.c.length k1, .slice a2 s.s.length k2] 27)
  obtain ⟨ad2, cap2, rfl, hl2, -⟩ := g.out
  obtain ⟨n10, hsl, hs01⟩ := scene_len hs
  have hx12 := fun l' => xorN_lt hs l' 0 (by decide)
  have hm12 := mask_lt hs
  have hml : Hid ((masksL s).length = s.c.length) := Lib.hid (by simp [masksL])
  have hsum := fun l' => sumS_bound s l' hs01
  replace hsum := Lib.hid hsum
  replace hs01 := Lib.hid hs01
  replace hsl := Lib.hid hsl
  replace hx12 := Lib.hid hx12
  replace hm12 := Lib.hid hm12
  replace hl := Lib.hid hl
  replace hs := Lib.hid hs
  go_enter Try.func77, Try.ntmps77
  go_wp2_with fail
  refine (c_l7Rows _ s _ (h.below hA) hs.out).mono ?_
  rintro e w1 ⟨vm, rfl, hvm, hb1⟩
  have hvi := hvm.ints
  obtain ⟨am, cm, rfl, hlm, -⟩ := hvi.out
  have pB : w1.heap[w.heap.size]? = some (.cells #[.int .i64 s.n, .slice a1 s.c.length k1, .slice a2 s.s.length k2] 27 (0, 0)) := blk_later hb1 (heap_alloc_at rfl)
  have hall : Below w.heap.size w w1 := hA.trans (hb1.mono (by simp))
  obtain ⟨⟨z0, z1, z2⟩, -⟩ := blk3 pB
  have hlb := (Array.getElem?_eq_some_iff.1 pB).1
  have hga := g.below hall
  have hsa := hsu.below hall
  clear hb1
  go_wp2_with fail
  go_loopw [6, 7, 8] (fun r m i wr => ∃ k : Nat, k ≤ l.length ∧ i = .int .i64 k ∧ r = .int .i64 ((xorN s (l.take k) 0 : Nat) : Int) ∧ m = .int .i64 (sumS s (l.take k)) ∧ Hid (∃ m, wr = w1.drewN m)) (fun _ _ i _ => l.length - (intOf i).toNat)
  case atStart => exact ⟨0, Nat.zero_le _, rfl, rfl, rfl, 0, rfl⟩
  case round =>
    obtain ⟨k, hk, rfl, rfl, rfl, hB⟩ := hrel
    obtain ⟨m, rfl⟩ := hB.out
    clear hB
    have hx1 := hx12.out (l.take k)
    have hx1 : xorN s (l.take k) 0 < 4096 := hx1
    obtain ⟨q0, q1⟩ := hsum.out (l.take k)
    have hlk : (l.take k).length ≤ 1000 := by simp; omega
    by_cases hlt : k < l.length
    · obtain ⟨bl, off, rfl, hb, hcell⟩ := hga.at k hlt
      obtain ⟨e0, e1⟩ := hl.out l[k] (List.getElem_mem hlt)
      obtain ⟨q, hq⟩ := Int.eq_ofNat_of_zero_le e0
      have hqm : q < ((masksL s).map fun x : Nat => (x : Int)).length := by have := hml.out; simp; omega
      have hqs : q < s.s.length := by have := hsl.out; omega
      have hqm2 : q < (masksL s).length := by simpa using hqm
      obtain ⟨bm, om, rfl, hbm, cm1⟩ := hvi.at q hqm
      obtain ⟨bs, os, rfl, hbs, cs1⟩ := hsa.at q hqs
      have em2 : Hid ((masksL s)[q] = (masksL s).getD q 0) := Lib.hid (by simp [List.getD, hqm2])
      have em : ((masksL s).map fun x : Nat => (x : Int))[q] = (((masksL s).getD q 0 : Nat) : Int) := by simp [List.getD, show q < (masksL s).length by simpa using hqm]
      rw [em] at cm1
      have es : s.s[q] = s.s.getD q 0 := by simp [List.getD, hqs]
      rw [hq] at hcell
      have hm1 := hm12.out q
      have hF : Hid (((xorN s (l.take (k + 1)) 0 : Nat) : Int) = bits .xor .i64 (xorN s (l.take k) 0 : Int) (((masksL s).getD q 0 : Nat) : Int)) := Lib.hid (by
        rw [i64_xor_nat _ _ (by omega) (by omega), List.take_succ_eq_append_getElem hlt, xorN_snoc, hq]; rfl)
      have hG : Hid (sumS s (l.take (k + 1)) = sumS s (l.take k) + s.s[q]) := Lib.hid (by rw [List.take_succ_eq_append_getElem hlt, sumS_snoc, hq, es]; rfl)
      obtain ⟨t0, t1⟩ := hs01.out s.s[q] (List.getElem_mem hqs)
      replace em := Lib.hid em
      replace es := Lib.hid es
      replace hq := Lib.hid hq
      clear e0
      go_wp2_with fail
      go_quiet (fail)
      all_goals go_wp2
      all_goals go_roundw
      case rel => exact ⟨k + 1, by omega, by go_num, by rw [hF.out, ← em2.out], by rw [hG.out], Lib.hid ⟨_, by first | rfl | exact World.drewN_drewN _ _ _⟩⟩
      case measure => simp [intOf]; omega
    · obtain rfl : k = l.length := by omega
      rw [List.take_length] at q0 q1 hx1 ⊢
      have ht : Hid ((sumS s l).tmod 2 = sumS s l % 2) := Lib.hid (Int.tmod_eq_emod_of_nonneg q0)
      have hBw := below_drewN hall m
      cases ha : (((xorN s l 0 : Nat) : Int) == 0)
      · have hF : Hid (proofB s l = false) := Lib.hid (by unfold proofB; rw [ha]; rfl)
        go_wp2
        go_ret
        exact ⟨by rw [hF.out]; rfl, hBw⟩
      · have hF : Hid (proofB s l = (sumS s l % 2 == 1)) := Lib.hid (by unfold proofB; rw [ha]; rfl)
        go_wp2
        go_ret
        exact ⟨by rw [hF.out]; rfl, hBw⟩

set_option maxRecDepth 100000 in
set_option maxHeartbeats 2000000 in
theorem c_isProof (v u : Value) (s : SceneD) (l : List Int) (w : World) (h : SceneR w v s) (g : Ints w u l) (hs : sceneB s = true) (hl : ∀ i ∈ l, 0 ≤ i ∧ i < s.c.length) (hn : l.length ≤ 1000) :
    Calls Try.prog 75 #[v, u] w fun e w' => e = .returned (.bool (proofB s l)) ∧ Below w.heap.size w w' := by
  obtain ⟨v1, v2, rfl, hc, hsu⟩ := id h
  obtain ⟨a1, k1, rfl, l1⟩ := hc.out
  obtain ⟨a2, k2, rfl, l2, -⟩ := hsu.out
  have hA := (Below.refl w.heap.size w).alloc (Nat.le_refl _) (.cells #[.int .i64 s.n, .slice a1 s.c.length k1, .slice a2 s.s.length k2] 27)
  obtain ⟨ad2, cap2, rfl, hl2, -⟩ := g.out
  obtain ⟨n10, hsl, hs01⟩ := scene_len hs
  have hx12 := fun l' => xorN_lt hs l' 0 (by decide)
  have hm12 := mask_lt hs
  have hml : Hid ((masksL s).length = s.c.length) := Lib.hid (by simp [masksL])
  have hsum := fun l' => sumS_bound s l' hs01
  replace hsum := Lib.hid hsum
  replace hs01 := Lib.hid hs01
  replace hsl := Lib.hid hsl
  replace hx12 := Lib.hid hx12
  replace hm12 := Lib.hid hm12
  replace hl := Lib.hid hl
  replace hs := Lib.hid hs
  go_enter Try.func75, Try.ntmps75
  go_wp2_with fail
  refine (c_masks _ s _ (h.below hA) hs.out).mono ?_
  rintro e w1 ⟨vm, rfl, hvm, hb1⟩
  obtain ⟨am, cm, rfl, hlm⟩ := hvm.out
  have pB : w1.heap[w.heap.size]? = some (.cells #[.int .i64 s.n, .slice a1 s.c.length k1, .slice a2 s.s.length k2] 27 (0, 0)) := blk_later hb1 (heap_alloc_at rfl)
  have hall : Below w.heap.size w w1 := hA.trans (hb1.mono (by simp))
  obtain ⟨⟨z0, z1, z2⟩, -⟩ := blk3 pB
  have hlb := (Array.getElem?_eq_some_iff.1 pB).1
  have hga := g.below hall
  have hsa := hsu.below hall
  clear hb1
  go_wp2_with fail
  go_loop [5, 6, 14] (fun r m i => ∃ k : Nat, k ≤ l.length ∧ i = .int .i64 k ∧ r = .int .u64 ((xorN s (l.take k) 0 : Nat) : Int) ∧ m = .int .i64 (sumS s (l.take k))) (fun _ _ i => l.length - (intOf i).toNat)
  case atStart => exact ⟨0, Nat.zero_le _, rfl, rfl, rfl⟩
  case round =>
    obtain ⟨k, hk, rfl, rfl, rfl⟩ := hrel
    have hx1 := hx12.out (l.take k)
    have hx1 : xorN s (l.take k) 0 < 4096 := hx1
    obtain ⟨q0, q1⟩ := hsum.out (l.take k)
    have hlk : (l.take k).length ≤ 1000 := by simp; omega
    by_cases hlt : k < l.length
    · obtain ⟨bl, off, rfl, hb, hcell⟩ := hga.at k hlt
      obtain ⟨e0, e1⟩ := hl.out l[k] (List.getElem_mem hlt)
      obtain ⟨q, hq⟩ := Int.eq_ofNat_of_zero_le e0
      have hqm : q < (masksL s).length := by have := hml.out; omega
      have hqs : q < s.s.length := by have := hsl.out; omega
      obtain ⟨bm, om, rfl, hbm, cm1⟩ := hvm.at q hqm
      obtain ⟨bs, os, rfl, hbs, cs1⟩ := hsa.at q hqs
      have em : (masksL s)[q] = (masksL s).getD q 0 := by simp [List.getD, hqm]
      rw [em] at cm1
      have es : s.s[q] = s.s.getD q 0 := by simp [List.getD, hqs]
      rw [hq] at hcell
      have hm1 := hm12.out q
      have hF : Hid (((xorN s (l.take (k + 1)) 0 : Nat) : Int) = bits .xor .u64 (xorN s (l.take k) 0 : Int) (((masksL s).getD q 0 : Nat) : Int)) := Lib.hid (by
        rw [u64_xor_nat _ _ (by omega) (by omega), List.take_succ_eq_append_getElem hlt, xorN_snoc, hq]; rfl)
      have hG : Hid (sumS s (l.take (k + 1)) = sumS s (l.take k) + s.s[q]) := Lib.hid (by rw [List.take_succ_eq_append_getElem hlt, sumS_snoc, hq, es]; rfl)
      obtain ⟨t0, t1⟩ := hs01.out s.s[q] (List.getElem_mem hqs)
      replace em := Lib.hid em
      replace es := Lib.hid es
      replace hq := Lib.hid hq
      clear e0
      go_wp2
      go_round
      case rel => exact ⟨k + 1, by omega, by go_num, by rw [hF.out, ← em.out], by rw [hG.out]⟩
      case measure => simp [intOf]; omega
    · obtain rfl : k = l.length := by omega
      rw [List.take_length] at q0 q1 hx1 ⊢
      have ht : Hid ((sumS s l).tmod 2 = sumS s l % 2) := Lib.hid (Int.tmod_eq_emod_of_nonneg q0)
      cases ha : (((xorN s l 0 : Nat) : Int) == 0)
      · have hF : Hid (proofB s l = false) := Lib.hid (by unfold proofB; rw [ha]; rfl)
        go_wp2
        go_ret
        exact ⟨by rw [hF.out]; rfl, hall⟩
      · have hF : Hid (proofB s l = (sumS s l % 2 == 1)) := Lib.hid (by unfold proofB; rw [ha]; rfl)
        go_wp2
        go_ret
        exact ⟨by rw [hF.out]; rfl, hall⟩

set_option maxHeartbeats 1000000 in
theorem c_l7Before (v u : Value) (a b : List Int) (w : World) (h : Ints w v a) (g : Ints w u b) :
    Calls Try.prog 78 #[v, u] w fun e w' => e = .returned (.bool (befB a b)) ∧ Below w.heap.size w w' := by
  obtain ⟨ad, cap, rfl, hl, -⟩ := h.out
  obtain ⟨ad2, cap2, rfl, hl2, -⟩ := g.out
  cases hd : ((a.length : Int) != (b.length : Int))
  · have hlen : a.length = b.length := by simp at hd; omega
    have hF : Hid (befB a b = decide (cmp3 (a.drop 0) (b.drop 0) < 0)) := Lib.hid (by simp [befB, hlen])
    have hle : a.length ≤ b.length ∧ b.length ≤ a.length := by omega
    clear hlen
    go_enter Try.func78, Try.ntmps78
    go_wp2_with fail
    go_loopw [5] (fun i wr => ∃ k : Nat, k ≤ a.length ∧ i = .int .i64 k ∧ Hid (cmp3 (a.drop 0) (b.drop 0) = cmp3 (a.drop k) (b.drop k)) ∧ Hid (∃ m, wr = w.drewN m)) (fun i _ => a.length - (intOf i).toNat)
    case atStart => exact ⟨0, Nat.zero_le _, rfl, Lib.hid rfl, 0, rfl⟩
    case round =>
      obtain ⟨k, hk, rfl, hc, hB⟩ := hrel
      obtain ⟨m, rfl⟩ := hB.out
      clear hB
      by_cases hlt : k < a.length
      · obtain ⟨bl, off, rfl, hb, hcell⟩ := h.at k hlt
        have hlt2 : k < b.length := by omega
        obtain ⟨bl2, off2, rfl, hb2, hcell2⟩ := g.at k hlt2
        cases hne : (a[k] != b[k])
        · have hc2 : Hid (cmp3 (a.drop 0) (b.drop 0) = cmp3 (a.drop (k + 1)) (b.drop (k + 1))) := Lib.hid (hc.out.trans (cmp3_eq a b k hlt hlt2 (by simpa using hne)))
          go_wp2_with fail
          go_quiet (fail)
          all_goals go_wp2
          all_goals go_roundw
          case rel => exact ⟨k + 1, by omega, by go_num, hc2, Lib.hid ⟨_, by first | rfl | exact World.drewN_drewN _ _ _⟩⟩
          case measure => simp [intOf]; omega
        · have hne2 : ¬ a[k] = b[k] := by simpa using hne
          cases hx : decide (a[k] < b[k])
          · have hx2 : ¬ a[k] < b[k] := by simpa using hx
            have hG : Hid (befB a b = false) := Lib.hid (by rw [hF.out, hc.out, cmp3_gt a b k hlt hlt2 (by omega)]; rfl)
            replace hne2 := Lib.hid hne2
            go_wp2_with fail
            go_quiet (fail)
            all_goals go_wp2_with fail
            go_quiet (fail)
            all_goals go_wp2
            go_ret
            exact ⟨by rw [hG.out]; rfl, by first | exact below_drewN (Below.refl _ _) _ | exact below_drewN (below_drewN (Below.refl _ _) _) _ | exact below_drewN (below_drewN (below_drewN (Below.refl _ _) _) _) _⟩
          · have hx2 : a[k] < b[k] := by simpa using hx
            have hG : Hid (befB a b = true) := Lib.hid (by rw [hF.out, hc.out, cmp3_lt a b k hlt hlt2 hx2]; rfl)
            replace hne2 := Lib.hid hne2
            go_wp2_with fail
            go_quiet (fail)
            all_goals go_wp2_with fail
            go_quiet (fail)
            all_goals go_wp2
            go_ret
            exact ⟨by rw [hG.out]; rfl, by first | exact below_drewN (Below.refl _ _) _ | exact below_drewN (below_drewN (Below.refl _ _) _) _ | exact below_drewN (below_drewN (below_drewN (Below.refl _ _) _) _) _⟩
      · have hG : Hid (befB a b = false) := Lib.hid (by rw [hF.out, hc.out, cmp3_end a b k (by omega)]; rfl)
        go_wp2
        go_ret
        exact ⟨by rw [hG.out]; rfl, below_drewN (Below.refl _ _) _⟩
  · have hF : Hid (befB a b = decide (a.length < b.length)) := Lib.hid (by simp at hd; simp [befB, show ¬ a.length = b.length by omega])
    go_enter Try.func78, Try.ntmps78
    go_wp2
    go_ret
    exact ⟨by rw [hF.out]; rfl, Below.refl _ _⟩

theorem c_cmpCompare (a b : Int) (w : World) :
    Calls Try.prog 105 #[.int .i64 a, .int .i64 b] w fun e w' => e = .returned (.int .i64 (if a < b then -1 else if b < a then 1 else 0)) ∧ w = w' := by
  have hnan : ∀ (x : Int) (w : World), Calls Try.prog 110 #[.int .i64 x] w fun e w' => e = .returned (.bool false) ∧ w = w' := by
    intro x w
    go_enter Try.func110, Try.ntmps110
    go_wp2
    go_ret
    exact ⟨by simp, rfl⟩
  rcases Int.lt_trichotomy a b with hx | hx | hx
  · have e : (if a < b then (-1 : Int) else if b < a then 1 else 0) = -1 := by simp [hx]
    rw [e]
    clear e
    go_enter Try.func105, Try.ntmps105
    go_wp2_with (go_at_call 110; refine (hnan _ _).mono ?_; rintro e w' ⟨rfl, rfl⟩)
    go_ret
    exact ⟨rfl, rfl⟩
  · have e : (if a < b then (-1 : Int) else if b < a then 1 else 0) = 0 := by simp [hx]
    rw [e]
    clear e
    have h1 : ¬ a < b := by omega
    have h2 : ¬ a > b := by omega
    replace hx := Lib.hid hx
    go_enter Try.func105, Try.ntmps105
    go_wp2_with (go_at_call 110; refine (hnan _ _).mono ?_; rintro e w' ⟨rfl, rfl⟩)
    go_ret
    exact ⟨rfl, rfl⟩
  · have e : (if a < b then (-1 : Int) else if b < a then 1 else 0) = 1 := by simp [hx, show ¬ a < b by omega]
    rw [e]
    clear e
    have h1 : ¬ a < b := by omega
    have h2 : a > b := hx
    go_enter Try.func105, Try.ntmps105
    go_wp2_with (go_at_call 110; refine (hnan _ _).mono ?_; rintro e w' ⟨rfl, rfl⟩)
    go_ret
    exact ⟨rfl, rfl⟩

set_option maxHeartbeats 1000000 in
theorem c_Compare (v u : Value) (a b : List Int) (w : World) (h : Ints w v a) (g : Ints w u b) (hlen : a.length = b.length) :
    Calls Try.prog 76 #[v, u] w fun e w' => e = .returned (.int .i64 (cmp3 a b)) ∧ w = w' := by
  obtain ⟨ad, cap, rfl, hl, -⟩ := h.out
  obtain ⟨ad2, cap2, rfl, hl2, -⟩ := g.out
  have hle : a.length ≤ b.length ∧ b.length ≤ a.length := by omega
  clear hlen
  have hF : Hid (cmp3 a b = cmp3 (a.drop 0) (b.drop 0)) := Lib.hid (by simp)
  go_enter Try.func76, Try.ntmps76
  go_wp2
  go_loop [11] (fun i => ∃ k : Nat, k ≤ a.length ∧ i = .int .i64 k ∧ Hid (cmp3 (a.drop 0) (b.drop 0) = cmp3 (a.drop k) (b.drop k))) (fun i => a.length - (intOf i).toNat)
  case atStart => exact ⟨0, Nat.zero_le _, rfl, Lib.hid rfl⟩
  case round =>
    obtain ⟨k, hk, rfl, hc⟩ := hrel
    by_cases hlt : k < a.length
    · obtain ⟨bl, off, rfl, hb, hcell⟩ := h.at k hlt
      have hlt2 : k < b.length := by omega
      obtain ⟨bl2, off2, rfl, hb2, hcell2⟩ := g.at k hlt2
      have hge : ¬ (k : Int) ≥ (b.length : Int) := by omega
      go_wp2_with fail
      refine (c_cmpCompare a[k] b[k] _).mono ?_
      rintro e _ ⟨rfl, rfl⟩
      rcases Int.lt_trichotomy a[k] b[k] with hx | hx | hx
      · have hG : Hid (cmp3 a b = -1) := Lib.hid (by rw [hF.out, hc.out, cmp3_lt a b k hlt hlt2 hx])
        rw [if_pos hx]
        go_wp2
        go_ret
        exact ⟨by rw [hG.out]; rfl, rfl⟩
      · have hc2 : Hid (cmp3 (a.drop 0) (b.drop 0) = cmp3 (a.drop (k + 1)) (b.drop (k + 1))) := Lib.hid (hc.out.trans (cmp3_eq a b k hlt hlt2 hx))
        rw [if_neg (show ¬ a[k] < b[k] by omega), if_neg (show ¬ b[k] < a[k] by omega)]
        replace hx := Lib.hid hx
        go_wp2
        go_round
        case rel => exact ⟨k + 1, by omega, by go_num, hc2⟩
        case measure => simp [intOf]; omega
      · have hG : Hid (cmp3 a b = 1) := Lib.hid (by rw [hF.out, hc.out, cmp3_gt a b k hlt hlt2 hx])
        rw [if_neg (show ¬ a[k] < b[k] by omega), if_pos hx]
        go_wp2
        go_ret
        exact ⟨by rw [hG.out]; rfl, rfl⟩
    · have hG : Hid (cmp3 a b = 0) := Lib.hid (by rw [hF.out, hc.out, cmp3_end a b k (by omega)])
      have hlt2 : ¬ (a.length : Int) < (b.length : Int) := by omega
      go_wp2
      go_ret
      exact ⟨by rw [hG.out]; rfl, rfl⟩
end Go.Proofs.Ytiidphlfpiaoeaa
