/- The contract of the program's FlipRule; conditions: none. -/
import Derived.Test.YtikfddppjalfdaaFlip
namespace Go.Proofs.Ytikfddppjalfdaa
open Go.RowKit

/-- the parts of a rule under construction lie apart, below hi -/
def FlipE (B bo : Nat) (F1 F2 F3 : Nat → Prop) (hi : Nat) : Prop := (∀ k, F1 k → ¬ F2 k) ∧ (∀ k, F1 k → ¬ F3 k) ∧ (∀ k, F2 k → ¬ F3 k) ∧ ¬ F1 bo ∧ ¬ F2 bo ∧ ¬ F3 bo ∧ (∀ k, F1 k → B + 1 < k ∧ k < hi) ∧ (∀ k, F2 k → B + 1 < k ∧ k < hi) ∧ (∀ k, F3 k → B + 1 < k ∧ k < hi) ∧ B + 1 < bo ∧ bo < hi
/-- a rule whose two tables grow, at block bo, behind the box and the result's variable -/
def FlipT (B bo : Nat) (F1 : Nat → Prop) (v1 z1 z2 z3 : Value) (f : List Int) (a s : List (List Int)) (w wr : World) : Prop :=
  ∃ (F2 F3 : Nat → Prop) (a2 : Option Addr) (n2 k2 : Nat) (a3 : Option Addr) (n3 k3 : Nat), wr.heap[bo]? = some (.cells #[v1, .slice a2 n2 k2, .slice a3 n3 k3] 25 (0, 0)) ∧ wr.heap[B]? = some (.cells #[z1, z2, z3] 25 (0, 0)) ∧
    wr.heap[B + 1]? = some (.cells #[.slice none 0 0, .slice none 0 0, .slice none 0 0] 25 (0, 0)) ∧ OwnF wr B F1 v1 f ∧ OwnR wr B F2 (.slice a2 n2 k2) a ∧ OwnR wr B F3 (.slice a3 n3 k3) s ∧ Below B w wr ∧ FlipE B bo F1 F2 F3 wr.heap.size

/-- what each operation of the region with two appends and two stores leaves -/
def flipR (B s0 bo : Nat) (F2 F3 FSx : Nat → Prop) (v1 v3 v6 : Value) (rs : List RK) (a s : List (List Int)) (i : Nat) (v : Value) (x : Nat × Nat) (u : Nat → Value) (g : Nat → Nat × Nat) (w : World) : Prop :=
  s0 ≤ x.1 ∧ (match i with
    | 9 => s0 ≤ (g 7).1 ∧ OwnR w B (fun k => F2 k ∨ InI (g 7) k ∨ InI x k) v a
    | 13 => OwnS w B 22 v [v6] ∧ ∀ g, v.ownBlock = some g → InI x g
    | 14 => OwnR w B (fun k => F3 k ∨ FSx k ∨ InI x k) v s
    | 16 => w.heap[bo]? = some (.cells #[v1, u 9, v3] 25 (0, 0))
    | _ => rkH B (rs.getD i rkT) v x u w)
/-- the blocks that they write to -/
def flipW (bo : Nat) (v2 v3 : Value) (j k : Nat) : Prop :=
  match j with
  | 9 => v2.ownBlock = some k
  | 14 => v3.ownBlock = some k
  | 16 => k = bo
  | _ => False
theorem flipW_lt {bo s0 : Nat} {v2 v3 : Value} (h2 : ∀ k, v2.ownBlock = some k → k < s0) (h3 : ∀ k, v3.ownBlock = some k → k < s0) (hb : bo < s0) (j k : Nat) (h : flipW bo v2 v3 j k) : k < s0 := by
  unfold flipW at h
  split at h
  · exact h2 k h
  · exact h3 k h
  · omega
  · exact h.elim

theorem one_own {w : World} {B : Nat} {r : Value} {ys : List Int} (h : OwnI w B r ys) : ∀ i (_ : i < [r].length) (_ : i < [ys].length), OwnI w B [r][i] [ys][i] := by
  intro i h1 h2
  have e : i = 0 := by simp at h1; omega
  subst e; exact h
theorem one_blk {r : Value} {F : Nat → Prop} (h : ∀ q, r.ownBlock = some q → F q) : ∀ i (_ : i < [r].length) q, [r][i].ownBlock = some q → F q := by
  intro i h1 q hq
  have e : i = 0 := by simp at h1; omega
  subst e; exact h q hq
theorem one_dis {r : Value} : ∀ i j (_ : i < [r].length) (_ : j < [r].length), i ≠ j → ∀ g, [r][i].ownBlock = some g → [r][j].ownBlock ≠ some g := by
  intro i j h1 h2 hne
  simp at h1 h2; omega
theorem Ints.shape {w : World} {v : Value} {xs : List Int} (h : Ints w v xs) : ∃ a n c, v = .slice a n c := by
  obtain ⟨a, c, e, -⟩ := h.out
  exact ⟨_, _, _, e⟩
theorem Rows2.shape {w : World} {v : Value} {xs : List (List Int)} (h : Rows2 w v xs) : ∃ a n c, v = .slice a n c := by
  obtain ⟨a, c, e, -⟩ := h.out
  exact ⟨_, _, _, e⟩
theorem flipR_mono {B s0 bo : Nat} {F2 F3 FSx : Nat → Prop} {v1 v2 v3 v6 : Value} {rs : List RK} {a s : List (List Int)} (h2 : ∀ k, v2.ownBlock = some k → k < s0 ∧ ¬ F3 k ∧ ¬ FSx k ∧ k ≠ bo) (h3 : ∀ k, v3.ownBlock = some k → k < s0 ∧ ¬ F2 k ∧ k ≠ bo)
    (hb : bo < s0 ∧ ¬ F2 bo ∧ ¬ F3 bo ∧ ¬ FSx bo) (i j : Nat) (v : Value) (x : Nat × Nat) (u : Nat → Value) (g : Nat → Nat × Nat) (w w' : World) (hne : j ≠ i) (h : flipR B s0 bo F2 F3 FSx v1 v3 v6 rs a s i v x u g w) (hk : KeptOff (flipW bo v2 v3 j) w w') : flipR B s0 bo F2 F3 FSx v1 v3 v6 rs a s i v x u g w' := by
  have hlt := flipW_lt (fun k e => (h2 k e).1) (fun k e => (h3 k e).1) hb.1 (v2 := v2) (v3 := v3) j
  unfold flipR at h ⊢
  refine ⟨h.1, ?_⟩
  have h1 := h.1
  replace h := h.2
  split at h
  · refine ⟨h.1, h.2.off hk fun k hF hW => ?_⟩
    have := hlt k hW
    rcases hF with hF | hF | hF
    · unfold flipW at hW
      split at hW
      · exact hne rfl
      · exact (h3 k hW).2.1 hF
      · subst hW; exact hb.2.1 hF
      · exact hW
    · unfold InI at hF; omega
    · unfold InI at hF; omega
  · refine ⟨h.1.off hk fun g e hW => ?_, h.2⟩
    have := hlt g hW
    have := h.2 g e
    unfold InI at this
    omega
  · refine h.off hk fun k hF hW => ?_
    have := hlt k hW
    rcases hF with hF | hF | hF
    · unfold flipW at hW
      split at hW
      · exact (h2 k hW).2.1 hF
      · exact hne rfl
      · subst hW; exact hb.2.2.1 hF
      · exact hW
    · unfold flipW at hW
      split at hW
      · exact (h2 k hW).2.2.1 hF
      · exact hne rfl
      · subst hW; exact hb.2.2.2 hF
      · exact hW
    · unfold InI at hF; omega
  · refine (hk.block _ (Array.getElem?_eq_some_iff.1 h).1 fun hW => ?_).trans h
    unfold flipW at hW
    split at hW
    · exact (h2 bo hW).2.2.2 rfl
    · exact (h3 bo hW).2.2 rfl
    · exact hne rfl
    · exact hW
  · exact rkH_off h hk fun k hI hW => by have := hlt k hW; unfold InI at hI; omega
theorem flipR_stab {ops : Array Oper} {B s0 bo : Nat} {F2 F3 FSx : Nat → Prop} {v1 v3 v6 : Value} {rs : List RK} {a s : List (List Int)} (js : List (List Nat)) (hjs : js = rs.map (·.js)) (hok : rkOk ops js = true) (hn : rs.length ≤ ops.size) (h7 : 7 ∈ depsAt ops 9) (h9 : 9 ∈ depsAt ops 16)
    (i : Nat) (v : Value) (x : Nat × Nat) (u u' : Nat → Value) (g g' : Nat → Nat × Nat) (w : World) (hu : ∀ j ∈ depsAt ops i, u j = u' j ∧ g j = g' j) (h : flipR B s0 bo F2 F3 FSx v1 v3 v6 rs a s i v x u g w) : flipR B s0 bo F2 F3 FSx v1 v3 v6 rs a s i v x u' g' w := by
  unfold flipR at h ⊢
  refine ⟨h.1, ?_⟩
  replace h := h.2
  split at h
  · rw [← (hu 7 h7).2]; exact h
  · exact h
  · exact h
  · rw [← (hu 9 h9).1]; exact h
  · refine rkH_congr h fun j hj => (hu j ?_).1
    by_cases hi : i < rs.length
    · have : rs.getD i rkT = rs[i] := by simp [List.getD, hi]
      rw [this] at hj
      simp only [rkOk, List.all_eq_true, List.mem_range, List.contains_iff_mem] at hok
      refine hok i (by omega) j ?_
      rw [hjs]
      simpa [List.getD, hi] using hj
    · have : rs.getD i rkT = rkT := by simp [List.getD, Nat.le_of_not_lt hi]
      rw [this] at hj
      cases hj

theorem flipT_step {B bo so : Nat} {F1 F2 F3 : Nat → Prop} {v1 v2 v3 z1 z2 z3 : Value} {f : List Int} {A' S' : List (List Int)} {w wr w2 : World} {a9 a14 : Option Addr} {n9 c9 n14 c14 : Nat} {y7 y9 y14 : Nat × Nat}
    (hE : FlipE B bo F1 F2 F3 so) (hso : so ≤ wr.heap.size) (pB : wr.heap[B]? = some (.cells #[z1, z2, z3] 25 (0, 0))) (pR : wr.heap[B + 1]? = some (.cells #[.slice none 0 0, .slice none 0 0, .slice none 0 0] 25 (0, 0)))
    (o1 : OwnF wr B F1 v1 f) (hBel : Below B w wr) (hk : KeptOff (fun q => ∃ j, j ≠ 18 ∧ flipW bo v2 v3 j q) wr w2) (hl2 : ∀ q, v2.ownBlock = some q → F2 q) (hl3 : ∀ q, v3.ownBlock = some q → F3 q)
    (r9 : OwnR w2 B (fun q => F2 q ∨ InI y7 q ∨ InI y9 q) (.slice a9 n9 c9) A') (r14 : OwnR w2 B (fun q => F3 q ∨ (so ≤ q ∧ q < wr.heap.size) ∨ InI y14 q) (.slice a14 n14 c14) S') (r16 : w2.heap[bo]? = some (.cells #[v1, .slice a9 n9 c9, v3] 25 (0, 0)))
    (i7 : wr.heap.size ≤ y7.1 ∧ y7.2 ≤ w2.heap.size) (i9 : wr.heap.size ≤ y9.1 ∧ y9.2 ≤ w2.heap.size) (i14 : wr.heap.size ≤ y14.1 ∧ y14.2 ≤ w2.heap.size) (t1 : y7.2 ≤ y14.1 ∨ y14.2 ≤ y7.1) (t2 : y9.2 ≤ y14.1 ∨ y14.2 ≤ y9.1) :
    FlipT B bo F1 v1 z1 z2 z3 f A' S' w (w2.setCell ⟨bo, 2, none⟩ (.slice a14 n14 c14)) := by
  obtain ⟨d1, d2, d3, d4, d5, d6, d7, d8, d9, d10, d11⟩ := hE
  have hl := (Array.getElem?_eq_some_iff.1 pR).1
  have hs := hk.size
  have hW : ∀ q, (∃ j, j ≠ 18 ∧ flipW bo v2 v3 j q) → B + 1 < q ∧ ¬ F1 q := by
    rintro q ⟨j, -, hq⟩
    unfold flipW at hq
    split at hq
    · exact ⟨(d8 q (hl2 q hq)).1, fun h => d1 q h (hl2 q hq)⟩
    · exact ⟨(d9 q (hl3 q hq)).1, fun h => d2 q h (hl3 q hq)⟩
    · subst hq; exact ⟨d10, d4⟩
    · exact hq.elim
  have hk2 := keptOff_set w2 bo 2 (.slice a14 n14 c14)
  have hs2 := hk2.size
  have qB := (hk.block B (by omega) (fun h => by have := (hW _ h).1; omega)).trans pB
  have qR := (hk.block (B + 1) hl (fun h => by have := (hW _ h).1; omega)).trans pR
  refine ⟨_, _, a9, n9, c9, a14, n14, c14, blk_set r16, blk_other qB (by omega), blk_other qR (by omega), (o1.off hk fun k h e => (hW k e).2 h).off hk2 (fun k h e => d4 (e ▸ h)), r9.off hk2 ?_, r14.off hk2 ?_,
    (hBel.trans (hk.below (fun q h => by have := (hW q h).1; omega) (by omega))).trans (hk2.below (fun q h => by omega) (by omega)), ?_⟩
  · intro q h e
    subst e
    unfold InI at h
    rcases h with h | h | h
    · exact d5 h
    · omega
    · omega
  · intro q h e
    subst e
    unfold InI at h
    rcases h with h | h | h
    · exact d6 h
    · omega
    · omega
  · unfold FlipE InI
    refine ⟨fun q a b => ?_, fun q a b => ?_, fun q a b => ?_, d4, fun h => ?_, fun h => ?_, fun q a => ?_, fun q a => ?_, fun q a => ?_, d10, by omega⟩
    · have := d7 q a
      rcases b with b | b | b
      · exact d1 q a b
      · omega
      · omega
    · have := d7 q a
      rcases b with b | b | b
      · exact d2 q a b
      · omega
      · omega
    · rcases a with a | a | a <;> rcases b with b | b | b
      · exact d3 q a b
      · have := d8 q a; omega
      · have := d8 q a; omega
      · have := d9 q b; omega
      · omega
      · omega
      · have := d9 q b; omega
      · omega
      · omega
    · rcases h with h | h | h
      · exact d5 h
      · omega
      · omega
    · rcases h with h | h | h
      · exact d6 h
      · omega
      · omega
    · have := d7 q a; omega
    · rcases a with a | a | a
      · have := d8 q a; omega
      · omega
      · omega
    · rcases a with a | a | a
      · have := d9 q a; omega
      · omega
      · omega

theorem flipT_end {B bo so : Nat} {F1 F2 F3 : Nat → Prop} {v1 v2 v3 : Value} {f : List Int} {x0 x1 : List Int} {s : List (List Int)} {wr w' : World} (hE : FlipE B bo F1 F2 F3 so) (o1 : OwnF wr B F1 v1 f) (o2 : OwnR wr B F2 v2 (mapR (fun k => [x0, x1].getD k []) 2)) (o3 : OwnR wr B F3 v3 (mapR (fun k => flipRow (s.getD k [])) 2))
    (hk : KeptOff (fun k => k = B + 1) wr w') (ht : Hid ([x0, x1].length + totR [x0, x1] ≤ 1099511627776)) : OwnU w' B (fun k => B ≤ k ∧ k < w'.heap.size) (.agg #[v1, v2, v3]) ⟨f, [x0, x1], mapR (fun k => flipRow (s.getD k [])) 2⟩ := by
  obtain ⟨d1, d2, d3, d4, d5, d6, d7, d8, d9, d10, d11⟩ := hE
  have hs := hk.size
  refine ⟨v1, v2, v3, rfl, _, _, _, (o1.inF).off hk (fun k h e => by have := d7 k h.1; omega), ⟨(o2.inG).off hk (fun k h e => by have := d8 k h.1; omega), ht.out⟩, ⟨(o3.inG).off hk (fun k h e => by have := d9 k h.1; omega), by simp [mapR, totR, flipRow, List.range_succ]⟩, ?_, ?_, ?_, ?_, ?_, ?_⟩
  · exact fun k h => ⟨h.2.1, by have := h.2.2; omega⟩
  · exact fun k h => ⟨h.2.1, by have := h.2.2; omega⟩
  · exact fun k h => ⟨h.2.1, by have := h.2.2; omega⟩
  · exact fun k a b => d1 k a.1 b.1
  · exact fun k a b => d2 k a.1 b.1
  · exact fun k a b => d3 k a.1 b.1

set_option maxHeartbeats 4000000 in
theorem c_impl_FlipRule (v : Value) (r : RuleD) (w : World) (h : RuleR w v r) :
    Calls Try.prog 37 #[v] w fun e w' => ∃ v', e = .returned (.tuple #[v', .bool (ruleB r)]) ∧ OwnU w' w.heap.size (fun k => w.heap.size ≤ k ∧ k < w'.heap.size) v' (flipU r) ∧ Below w.heap.size w w' := by
  obtain ⟨v1, n1, k1, v2, n2, k2, v3, n3, k3, rfl⟩ := h.shape
  have hA := ((Below.refl w.heap.size w).alloc (Nat.le_refl _) (.cells #[.slice v1 n1 k1, .slice v2 n2 k2, .slice v3 n3 k3] 25)).alloc (by simp) (.cells #[.slice none 0 0, .slice none 0 0, .slice none 0 0] 25)
  cases hn : ruleB r
  · have hF := Lib.hid (flipU_no hn)
    replace hn := Lib.hid hn
    go_enter Try.func37, Try.ntmps37
    go_wp2_with fail
    refine (c_impl_IsRule _ r _ (h.below hA)).mono ?_
    rintro e w1 ⟨rfl, hb1⟩
    rw [hn.out]
    have p0 : w1.heap[w.heap.size + 1]? = some (.cells #[.slice none 0 0, .slice none 0 0, .slice none 0 0] 25 (0, 0)) := blk_later hb1 (heap_alloc_at (by simp))
    obtain ⟨⟨c0, c1, c2⟩, f0, f1, f2⟩ := blk3 p0
    obtain ⟨⟨q0, q1, q2⟩, hk⟩ := stored3 p0 (.slice none 0 0) (.slice none 0 0) (.slice none 0 0)
    replace q0 := Lib.hid q0
    replace q1 := Lib.hid q1
    replace q2 := Lib.hid q2
    have hz := hb1.size
    simp only [World.size_alloc] at hz
    replace hz := Lib.hid hz
    go_wp2
    refine bodyPost_ret (v := .tuple #[.agg #[.slice none 0 0, .slice none 0 0, .slice none 0 0], .bool false]) (by simp [results, Try.results37, go_sem, q0.out, q1.out, q2.out]) rfl
      ⟨_, rfl, by rw [hF.out]; exact ownU_nil _ _ _, (hA.trans (hb1.mono (by simp <;> omega))).trans (hk.below (fun k h => by omega) (by have := hz.out; omega))⟩
  · obtain ⟨f, x0, x1, y0, y1, rfl, ⟨lf, bf⟩, ⟨lx0, bx0⟩, ⟨lx1, bx1⟩, hy0, hy1⟩ := rule_parts hn
    have hF : Hid (flipU ⟨f, [x0, x1], [y0, y1]⟩ = ⟨f, [x0, x1], mapR (fun k => flipRow ([y0, y1].getD k [])) 2⟩) := Lib.hid (by simp [flipU, hn])
    replace hn := Lib.hid hn
    clear bf bx0 bx1
    have lf0 : 0 < f.length ∧ f.length ≤ 1000 := by omega
    have lx00 : 0 < x0.length ∧ x0.length ≤ 1000 := by omega
    have lx10 : 0 < x1.length ∧ x1.length ≤ 1000 := by omega
    have ltot : Hid ([x0, x1].length + totR [x0, x1] ≤ 1099511627776) := Lib.hid (by simp [totR]; omega)
    clear lf lx0 lx1
    obtain ⟨_, _, _, e, h1, h2, h3⟩ := id h
    cases e
    obtain ⟨_, _, e, -⟩ := h1.out
    cases e
    obtain ⟨bA, oA, a0, c0, rfl, hltA, cA0, i0⟩ := h2.at 0 (by simp)
    obtain ⟨_, _, a1, c1, e, -, cA1, i1⟩ := h2.at 1 (by simp)
    cases e
    obtain ⟨_, _, e, -⟩ := h2.out
    cases e
    obtain ⟨_, _, e, -⟩ := h3.out
    cases e
    obtain ⟨bS, oS, _, _, rfl, hltS, -, -⟩ := h3.at 0 (by simp)
    replace cA0 : w.cell? ⟨bA, oA, none⟩ = some (.slice a0 x0.length c0) := cA0
    replace cA1 : w.cell? ⟨bA, oA + 1, none⟩ = some (.slice a1 x1.length c1) := cA1
    replace i0 : Ints w (.slice a0 x0.length c0) x0 := i0
    replace i1 : Ints w (.slice a1 x1.length c1) x1 := i1
    replace hy0 := Lib.hid hy0
    replace hy1 := Lib.hid hy1
    go_enter Try.func37, Try.ntmps37
    go_wp2_with fail
    refine (c_impl_IsRule _ ⟨f, [x0, x1], [y0, y1]⟩ _ (h.below hA)).mono ?_
    rintro e w1 ⟨rfl, hb1⟩
    rw [hn.out]
    have p0 : w1.heap[w.heap.size]? = some (.cells #[.slice v1 f.length k1, .slice (some ⟨bA, oA, none⟩) 2 k2, (.slice (some ⟨bS, oS, none⟩) 2 k3)] 25 (0, 0)) := blk_later hb1 (by repeat (first | (refine heap_alloc_at ?_; simp; done) | (refine (heap_alloc_old _ _ ?_).trans ?_; · (simp <;> omega))))
    have p1 : w1.heap[w.heap.size + 1]? = some (.cells #[.slice none 0 0, .slice none 0 0, .slice none 0 0] 25 (0, 0)) := blk_later hb1 (heap_alloc_at (by simp))
    replace hA := hA.trans (hb1.mono (by simp <;> omega))
    have hz := hb1.size
    simp only [World.size_alloc] at hz
    have hltA' := hltA
    rw [← (bcell hA).1 _ _ hltA] at cA0 cA1
    replace hltA : bA < w1.heap.size := by omega
    obtain ⟨⟨z0, z1, z2⟩, -⟩ := blk3 p0
    clear hb1
    go_wp2_with fail
    refine (c_copied _ f _ (h1.below hA) lf0.1 (by omega)).mono ?_
    rintro e w2 ⟨vF, rfl, o1, hb2⟩
    have p0' := blk_later hb2 p0
    have p1' := blk_later hb2 p1
    replace hA := bstep hA hb2
    have hz2 := hb2.size
    replace cA0 := ((bcell hb2).1 _ _ hltA).trans cA0
    replace cA1 := ((bcell hb2).1 _ _ hltA).trans cA1
    replace hltA : bA < w2.heap.size := by omega
    obtain ⟨bF, cF, rfl, -, -⟩ := o1.ints.out
    replace o1 := (o1.toF).mono (B' := w.heap.size) (by omega)
    clear z0 z1 z2 p0 p1 hb2
    obtain ⟨⟨z0, z1, z2⟩, -⟩ := blk3 p0'
    have hst : FlipT w.heap.size w2.heap.size (fun k => w1.heap.size ≤ k ∧ k < w2.heap.size) (.slice bF f.length cF) (.slice v1 f.length k1) (.slice (some ⟨bA, oA, none⟩) 2 k2) (.slice (some ⟨bS, oS, none⟩) 2 k3) f [] [] w
        (w2.alloc (.cells #[.slice bF f.length cF, .slice none 0 0, .slice none 0 0] 25)) := by
      refine ⟨fun _ => False, fun _ => False, none, 0, 0, none, 0, 0, heap_alloc_at rfl, (heap_alloc_old _ _ (by omega)).trans p0', (heap_alloc_old _ _ (by omega)).trans p1', o1.below ((Below.refl _ _).alloc (Nat.le_refl _) _),
        (ownR_nil _ _ _).mono (Nat.le_refl _) (fun _ h => h), (ownR_nil _ _ _).mono (Nat.le_refl _) (fun _ h => h), hA.alloc (by omega) _, ?_⟩
      exact ⟨fun k _ h => h, fun k _ h => h, fun k h => h.elim, fun h => by have := h.2; omega, fun h => h, fun h => h, fun k h => ⟨by have := h.1; omega, by have := h.2; simp; omega⟩, fun k h => h.elim, fun k h => h.elim, by omega, by simp⟩
    clear o1 z0 z1 z2
    go_wp2_with fail
    obtain ⟨w3, hw3⟩ : ∃ w3, w3 = (w2.alloc (.cells #[.slice bF f.length cF, .slice none 0 0, .slice none 0 0] 25)) := ⟨_, rfl⟩
    rw [← hw3] at hst ⊢
    obtain ⟨F1, hF1⟩ : ∃ F1 : Nat → Prop, F1 = fun k => w1.heap.size ≤ k ∧ k < w2.heap.size := ⟨_, rfl⟩
    rw [← hF1] at hst
    obtain ⟨bo, hbo⟩ : ∃ bo, bo = w2.heap.size := ⟨_, rfl⟩
    rw [← hbo] at hst ⊢
    have hltA0 := hltA'
    clear hw3 hbo hF1 p0' p1' hA cA0 cA1 hltA hz2
    go_loopw [17] (fun x wr => ∃ k : Nat, k ≤ 2 ∧ x = .int .i64 k ∧ FlipT w.heap.size bo F1 (.slice bF f.length cF) (.slice v1 f.length k1) (.slice (some ⟨bA, oA, none⟩) 2 k2) (.slice (some ⟨bS, oS, none⟩) 2 k3) f (mapR (fun k => [x0, x1].getD k []) k) (mapR (fun k => flipRow ([y0, y1].getD k [])) k) w wr) (fun x _ => 2 - (intOf x).toNat)
    case atStart => exact ⟨0, Nat.zero_le _, rfl, hst⟩
    case round =>
      obtain ⟨k, hk2, rfl, hst⟩ := hrel
      obtain ⟨F2, F3, a2, len2, k2', a3, len3, k3', pb, pB, pR, o1, o2, o3, hBel, hE⟩ := hst
      replace hE := Lib.hid hE
      by_cases hlt : k < 2
      · obtain ⟨wo, rfl⟩ : ∃ wo : World, wo = wr := ⟨_, rfl⟩
        obtain ⟨y, aY, cY, hy, cS, iY, ly⟩ : ∃ y aY cY, Hid ([y0, y1].getD k [] = y) ∧ w.cell? ⟨bS, oS + k, none⟩ = some (.slice aY y.length cY) ∧ Ints w (.slice aY y.length cY) y ∧ Hid (y.length = 4 ∧ ∀ q ∈ y, 0 ≤ q ∧ q ≤ 1) := by
          obtain ⟨b, o, a', c', e, -, hc, hi⟩ := h3.at k (by simpa using hlt)
          cases e
          refine ⟨_, a', c', Lib.hid ?_, hc, hi, Lib.hid ?_⟩
          · rw [List.getD, List.getElem?_eq_getElem (by simpa using hlt)]; rfl
          · have : k = 0 ∨ k = 1 := by omega
            rcases this with rfl | rfl
            · exact hy0.out
            · exact hy1.out
        obtain ⟨x, aX, cX, hx, cA, iX, lx⟩ : ∃ x aX cX, Hid ([x0, x1].getD k [] = x) ∧ w.cell? ⟨bA, oA + k, none⟩ = some (.slice aX x.length cX) ∧ Ints w (.slice aX x.length cX) x ∧ (0 < x.length ∧ x.length ≤ 1000) := by
          obtain ⟨b, o, a', c', e, -, hc, hi⟩ := h2.at k (by simpa using hlt)
          cases e
          refine ⟨_, a', c', Lib.hid ?_, hc, hi, ?_⟩
          · rw [List.getD, List.getElem?_eq_getElem (by simpa using hlt)]; rfl
          · have : k = 0 ∨ k = 1 := by omega
            rcases this with rfl | rfl
            · exact lx00
            · exact lx10
        have hly : 4 ≤ y.length ∧ y.length ≤ 4 := by have := ly.out.1; omega
        obtain ⟨bY, oY, rfl, -, -⟩ := iY.at 0 (by omega)
        have cS' := ((bcell hBel).1 _ _ hltS).trans cS
        obtain ⟨⟨-, -, z2⟩, -⟩ := blk3 pB
        have hlB : w.heap.size < wo.heap.size := (Array.getElem?_eq_some_iff.1 pB).1
        have hlS : bS < wo.heap.size := by have := hBel.size; omega
        have hd2 : decide ((k : Int) < 2) = true := by simp; omega
        go_wp2
        go_loopw [6, 27] (fun v j wr => ∃ i : Nat, i ≤ y.length ∧ j = .int .i64 i ∧ OwnI wr wo.heap.size v (mapR (fun i => 1 - y.getD i 0) i) ∧ Below wo.heap.size wo wr) (fun _ j _ => y.length - (intOf j).toNat)
        case atStart => exact ⟨0, Nat.zero_le _, rfl, own_empty _ _ (Nat.le_refl _), (Below.refl _ _).alloc (Nat.le_refl _) _⟩
        case round =>
          obtain ⟨i, hi, rfl, hrow, hBo⟩ := hrel
          have hszo := hBo.size
          by_cases hlti : i < y.length
          · have hall := bstep hBel hBo
            obtain ⟨_, _, e, hbY, cy⟩ := (iY.below hall).at i (by omega)
            cases e
            obtain ⟨by2, by3⟩ := ly.out.2 y[i] (List.getElem_mem _)
            have hd3 : decide ((i : Int) < (y.length : Int)) = true := by simp; omega
            have eY : Hid (y[i] = y.getD i 0) := Lib.hid (by simp [List.getD, hlti])
            go_wp2_with (at_builtin; refine wp_append_int _ _ rfl _ _ rfl wo.heap.size _ _ rfl hrow rfl (by first | rfl | simp) (by rw [mapR_len]; omega) hszo ?_; intro v' w4 hrow2 _ hB2 _)
            rw [eY.out, ← mapR_succ (fun i => 1 - y.getD i 0)] at hrow2
            go_roundw
            case rel => exact ⟨i + 1, by omega, by go_num, hrow2, hBo.trans hB2⟩
            case measure => simp [intOf]; omega
          · obtain rfl : i = 4 := by omega
            have hrow' : OwnI wr w.heap.size _ (flipRow y) := hrow.mono (by have := hBel.size; omega)
            obtain ⟨a6, n6, c6, rfl⟩ := hrow.ints.shape
            have hin : ∀ q, (Value.slice a6 n6 c6).ownBlock = some q → wo.heap.size ≤ q ∧ q < wr.heap.size := OwnS.lt hrow
            clear hrow
            replace pb := blk_later hBo pb
            replace pB := blk_later hBo pB
            replace pR := blk_later hBo pR
            replace o1 := o1.below hBo
            replace o2 := o2.below hBo
            replace o3 := o3.below hBo
            have hl2 := o2.blk
            have hl3 := o3.blk
            replace hBel := bstep hBel hBo
            have cA' := ((bcell hBel).1 _ _ hltA0).trans cA
            obtain ⟨d1, d2, d3, d4, d5, d6, d7, d8, d9, d10, d11⟩ := hE.out
            have hm := flipR_mono (B := w.heap.size) (F2 := F2) (F3 := F3) (FSx := fun q => wo.heap.size ≤ q ∧ q < wr.heap.size) (s0 := wr.heap.size) (bo := bo) (v1 := .slice bF f.length cF) (v2 := .slice a2 len2 k2') (v3 := .slice a3 len3 k3') (v6 := .slice a6 n6 c6)
              (rs := [rkV (.pointer (some ⟨bo, 1, none⟩)), rkV (.slice a2 len2 k2'), rkV (.pointer (some ⟨w.heap.size, 1, none⟩)), rkV (.slice (some ⟨bA, oA, none⟩) 2 k2), rkV (.int .i64 k), rkV (.pointer (some ⟨bA, oA + k, none⟩)), rkV (.slice aX x.length cX), rkL x, rkS [7], rkT,
                rkV (.pointer (some ⟨bo, 2, none⟩)), rkV (.slice a3 len3 k3'), rkV (.slice a6 n6 c6), rkT, rkT, rkV (.pointer (some ⟨bo, 1, none⟩)), rkT, rkV (.pointer (some ⟨bo, 2, none⟩))])
              (a := mapR (fun k => [x0, x1].getD k []) k ++ [x]) (s := mapR (fun k => flipRow ([y0, y1].getD k [])) k ++ [flipRow y])
              (fun q e => ⟨by have := d8 q (hl2 q e); omega, d3 q (hl2 q e), by have := d8 q (hl2 q e); omega, fun e2 => d5 (e2 ▸ hl2 q e)⟩) (fun q e => ⟨by have := d9 q (hl3 q e); omega, fun h => d3 q h (hl3 q e), fun e2 => d6 (e2 ▸ hl3 q e)⟩) ⟨by omega, d5, d6, by omega⟩
            have hWlo : ∀ j q, flipW bo (.slice a2 len2 k2') (.slice a3 len3 k3') j q → w.heap.size + 1 < q := by
              intro j q hq
              unfold flipW at hq
              split at hq
              · exact (d8 q (hl2 q hq)).1
              · exact (d9 q (hl3 q hq)).1
              · omega
              · exact hq.elim
            have hszr : w.heap.size + 1 < wr.heap.size := (Array.getElem?_eq_some_iff.1 pR).1
            replace hm := Lib.hid hm
            replace hE := Lib.hid hE
            go_wp2_with fail
            refine wp_region_free3 (by kernel_rfl) [none, none, none, none, none, none, none, none, none, none, none, none, none, none, none, none, none, none, none, none, none, none, none, none, none, none, none, none, none, none, none, none, none, none, none, none, none, some 0, some 1, some 2, some 3, some 4, some 5, some 6, some 7, some 8, some 9, some 10, some 11, some 12, some 13, some 14, some 15, some 17]
              18 (by kernel_rfl) (by kernel_rfl) (by kernel_rfl) _ rfl _ _ hm.out (fun i v x u u' g g' w => flipR_stab _ rfl (by kernel_rfl) (by simp) (by decide) (by decide) i v x u u' g g' w) ?_ ?_
            · intro i o ho hi u g ww hk hd hap
              have hs0 := hk.size
              have hlow : Below w.heap.size wr ww := hk.below (fun q ⟨j, _, _, hq⟩ => by have := hWlo j q hq; omega) (by omega)
              have hall := hBel.trans hlow
              have yA := (hlow.cell (p := ⟨bA, oA + k, none⟩) hltA0).trans cA'
              have pBw := (hk.block w.heap.size (by omega) (fun ⟨j, _, _, hq⟩ => by have := hWlo j _ hq; omega)).trans pB
              have pbw : ∀ hh : i = 1 ∨ i = 11 ∨ i = 16, ww.heap[bo]? = some (.cells #[.slice bF f.length cF, .slice a2 len2 k2', .slice a3 len3 k3'] 25 (0, 0)) := fun hh => (hk.block bo (by omega) (fun ⟨j, hj, hn, hq⟩ => by
                unfold flipW at hq
                split at hq
                · exact d5 (hl2 _ hq)
                · exact d6 (hl3 _ hq)
                · rcases hh with rfl | rfl | rfl
                  · exact hn (by decide)
                  · exact hn (by decide)
                  · exact hj rfl
                · exact hq)).trans pb
              have o2w : ∀ hh : i = 9, OwnR ww w.heap.size F2 (.slice a2 len2 k2') (mapR (fun k => [x0, x1].getD k []) k) := fun hh => o2.off hk fun q hF ⟨j, hj, hn, hq⟩ => by
                unfold flipW at hq
                split at hq
                · exact hj hh.symm
                · exact d3 q hF (hl3 _ hq)
                · exact d5 (hq ▸ hF)
                · exact hq
              have o3w : ∀ hh : i = 14, OwnR ww w.heap.size F3 (.slice a3 len3 k3') (mapR (fun k => flipRow ([y0, y1].getD k [])) k) := fun hh => o3.off hk fun q hF ⟨j, hj, hn, hq⟩ => by
                unfold flipW at hq
                split at hq
                · exact d3 q (hl2 _ hq) hF
                · exact hj hh.symm
                · exact d6 (hq ▸ hF)
                · exact hq
              have hSw : OwnI ww w.heap.size (.slice a6 n6 c6) (flipRow y) := hrow'.off hk fun q e ⟨j, hj, hn, hq⟩ => by
                have a := hin q e
                unfold flipW at hq
                split at hq
                · have := d8 q (hl2 q hq); omega
                · have := d9 q (hl3 q hq); omega
                · omega
                · exact hq
              replace pbw := Lib.hid pbw
              replace o2w := Lib.hid o2w
              replace o3w := Lib.hid o3w
              replace hWlo := Lib.hid hWlo
              have hlow0 := hlow.size
              have hlow0 : w.heap.size ≤ ww.heap.size := by omega
              rcases i with _ | _ | _ | _ | _ | _ | _ | _ | _ | _ | _ | _ | _ | _ | _ | _ | _ | _ | _ | i
              all_goals try obtain rfl := Option.some.inj ho
              all_goals try simp only [putAll, fillL]
              · go_wp2
                exact ⟨_, rfl, KeptOff.refl _ _, hs0, rfl⟩
              · have e0 : u 0 = .pointer (some ⟨bo, 1, none⟩) := (hd 0 (by decide)).2
                rw [e0]
                obtain ⟨⟨-, m1, -⟩, -⟩ := blk3 (pbw.out (.inl rfl))
                go_wp2
                exact ⟨_, by simp only [putAll, fillL, e0]; rfl, KeptOff.refl _ _, hs0, rfl⟩
              · go_wp2
                exact ⟨_, rfl, KeptOff.refl _ _, hs0, rfl⟩
              · have e2 : u 2 = .pointer (some ⟨w.heap.size, 1, none⟩) := (hd 2 (by decide)).2
                rw [e2]
                obtain ⟨⟨-, m1, -⟩, -⟩ := blk3 pBw
                go_wp2
                exact ⟨_, by simp only [putAll, fillL, e2]; rfl, KeptOff.refl _ _, hs0, rfl⟩
              · go_wp2
                exact ⟨_, rfl, KeptOff.refl _ _, hs0, rfl⟩
              · have e3 : u 3 = .slice (some ⟨bA, oA, none⟩) 2 k2 := (hd 3 (by decide)).2
                rw [e3]
                have e4 : u 4 = .int .i64 k := (hd 4 (by decide)).2
                rw [e4]
                go_wp2
                exact ⟨_, by simp only [putAll, fillL, e3, e4]; rfl, KeptOff.refl _ _, hs0, rfl⟩
              · have e5 : u 5 = .pointer (some ⟨bA, oA + k, none⟩) := (hd 5 (by decide)).2
                rw [e5]
                go_wp2
                exact ⟨_, by simp only [putAll, fillL, e5]; rfl, KeptOff.refl _ _, hs0, rfl⟩
              · have e6 : u 6 = .slice aX x.length cX := (hd 6 (by decide)).2
                rw [e6]
                go_wp2_with fail
                refine (c_copied _ x _ (iX.below hall) lx.1 (by omega)).mono ?_
                rintro e wn ⟨vn, rfl, hvn, hbn⟩
                go_wp2
                exact ⟨_, by simp only [putAll, fillL, e6]; rfl, (kept0 hbn).mono (fun _ h => h.elim), hs0, hvn.mono hlow0, hvn.le, OwnS.lt hvn⟩
              · have d7' : OwnF ww w.heap.size (InI (g 7)) (u 7) _ := (hd 7 (by decide)).2
                obtain ⟨p7, r7, q7, e7⟩ := d7'.rd.shape
                rw [e7]
                go_wp2
                exact ⟨_, by simp only [putAll, fillL, e7]; rfl, kept_alloc _ _ _, hs0, own_rowsI ww w.heap.size _ [u 7] 1 (by rw [e7]) rfl hlow0 (by simp)⟩
              · have e1 : u 1 = .slice a2 len2 k2' := (hd 1 (by decide)).2
                rw [e1]
                have R7 : wr.heap.size ≤ (g 7).1 ∧ OwnF ww w.heap.size (InI (g 7)) (u 7) x := hd 7 (by decide)
                have R8 : OwnS ww w.heap.size 22 (u 8) [u 7] ∧ _ := (hd 8 (by decide)).2
                have S8 := R8.1.sl
                obtain ⟨p8, q8, e8, -⟩ := id S8
                rw [e8] at S8 ⊢
                have ho2 := o2w.out rfl
                refine wp_append_rowsG ww rfl (.tmp 38) (.tmp 45) rfl w.heap.size F2 (InI (g 7)) _ _ rfl ho2 _ [u 7] [x] rfl S8 (by simp) rfl (one_own R7.2.1) one_dis (one_blk R7.2.2.2) (fun q a b => by have a1 := d8 q a; have b1 := b.1; have := R7.1; omega) (by rw [mapR_len]; simp; omega) hlow0 ?_
                intro v' w' hown hgr hne
                exact ⟨v', by simp only [putAll, fillL, e1, e8] <;> rfl, grown_kept hgr, hs0, R7.1, hown _ (fun q h => .inl h) (fun q h => .inr (.inl h)) (fun q a b => .inr (.inr ⟨a, b⟩))⟩
              · go_wp2
                exact ⟨_, rfl, KeptOff.refl _ _, hs0, rfl⟩
              · have e10 : u 10 = .pointer (some ⟨bo, 2, none⟩) := (hd 10 (by decide)).2
                rw [e10]
                obtain ⟨⟨-, -, m2⟩, -⟩ := blk3 (pbw.out (.inr (.inl rfl)))
                go_wp2
                exact ⟨_, by simp only [putAll, fillL, e10]; rfl, KeptOff.refl _ _, hs0, rfl⟩
              · go_wp2
                exact ⟨_, rfl, KeptOff.refl _ _, hs0, rfl⟩
              · have e12 : u 12 = .slice a6 n6 c6 := (hd 12 (by decide)).2
                rw [e12]
                go_wp2
                exact ⟨_, by simp only [putAll, fillL, e12]; rfl, kept_alloc _ _ _, hs0, own_rowsI ww w.heap.size _ [.slice a6 n6 c6] 1 rfl rfl hlow0 (by simp)⟩
              · have e11 : u 11 = .slice a3 len3 k3' := (hd 11 (by decide)).2
                rw [e11]
                have R13 : OwnS ww w.heap.size 22 (u 13) [.slice a6 n6 c6] ∧ _ := (hd 13 (by decide)).2
                have S13 := R13.1.sl
                obtain ⟨p13, q13, e13, -⟩ := id S13
                rw [e13] at S13 ⊢
                have ho3 := o3w.out rfl
                refine wp_append_rowsG ww rfl (.tmp 48) (.tmp 50) rfl w.heap.size F3 (fun q => wo.heap.size ≤ q ∧ q < wr.heap.size) _ _ rfl ho3 _ [.slice a6 n6 c6] [flipRow y] rfl S13 (by simp) rfl (one_own hSw) one_dis (one_blk hin) (fun q a b => by have a1 := d9 q a; have b1 := b.1; omega) (by rw [mapR_len]; simp; omega) hlow0 ?_
                intro v' w' hown hgr hne
                exact ⟨v', by simp only [putAll, fillL, e11, e13] <;> rfl, grown_kept hgr, hs0, hown _ (fun q h => .inl h) (fun q h => .inr (.inl h)) (fun q a b => .inr (.inr ⟨a, b⟩))⟩
              · go_wp2
                exact ⟨_, rfl, KeptOff.refl _ _, hs0, rfl⟩
              · have e15 : u 15 = .pointer (some ⟨bo, 1, none⟩) := (hd 15 (by decide)).2
                rw [e15]
                have R9 : OwnR ww w.heap.size _ (u 9) _ := (hd 9 (by decide)).2.2
                obtain ⟨p9, r9, q9, e9⟩ := R9.rows.shape
                rw [e9]
                have qb := pbw.out (.inr (.inr rfl))
                obtain ⟨⟨m0, m1, m2⟩, g0, g1, g2⟩ := blk3 qb
                go_wp2
                exact ⟨u 0, by simp only [putAll, fillL, e15, e9]; rfl, keptOff_set _ _ _ _, hs0, by rw [e9]; exact blk_set qb⟩
              · go_wp2
                exact ⟨_, rfl, KeptOff.refl _ _, hs0, rfl⟩
              · exact absurd rfl hi
              · simp at ho
            · intro u g w5 hk hR hAp
              have R9 : OwnR w5 w.heap.size (fun q => F2 q ∨ InI (g 7) q ∨ InI (g 9) q) (u 9) _ := (hR 9 (by decide) (by decide)).2.2
              have R14 : OwnR w5 w.heap.size (fun q => F3 q ∨ (wo.heap.size ≤ q ∧ q < wr.heap.size) ∨ InI (g 14) q) (u 14) _ := (hR 14 (by decide) (by decide)).2
              have R16 : w5.heap[bo]? = some (.cells #[.slice bF f.length cF, u 9, .slice a3 len3 k3'] 25 (0, 0)) := (hR 16 (by decide) (by decide)).2
              have e17 : u 17 = .pointer (some ⟨bo, 2, none⟩) := (hR 17 (by decide) (by decide)).2
              have i7 := hAp.inn 7 (by decide)
              have i9 := hAp.inn 9 (by decide)
              have i14 := hAp.inn 14 (by decide)
              have t1 := hAp.two 7 14 (by decide) (by decide) (by decide)
              have t2 := hAp.two 9 14 (by decide) (by decide) (by decide)
              obtain ⟨p9, r9, q9, e9⟩ := R9.rows.shape
              obtain ⟨p14, r14, q14, e14⟩ := R14.rows.shape
              rw [e9] at R9 R16
              rw [e14] at R14
              have hst := flipT_step hE.out hszo pB pR o1 hBel hk hl2 hl3 R9 R14 R16 ⟨i7.1, i7.2.2⟩ ⟨i9.1, i9.2.2⟩ ⟨i14.1, i14.2.2⟩ t1 t2
              rw [← hx.out, ← hy.out, ← mapR_succ (fun k => [x0, x1].getD k []), ← mapR_succ (fun k => flipRow ([y0, y1].getD k []))] at hst
              obtain ⟨⟨m0, m1, m2⟩, g0, g1, g2⟩ := blk3 R16
              clear hR hAp R9 R14 R16 i7 i9 i14 t1 t2 hk hE hm hWlo
              simp only [putAll, fillL]
              rw [e17, e14]
              clear e17 e14 e9
              go_wp2
              go_roundw
              case rel => exact ⟨k + 1, by omega, by go_num, hst⟩
              case measure => simp [intOf]; omega
      · obtain rfl : k = 2 := by omega
        obtain ⟨⟨m0, m1, m2⟩, g0, g1, g2⟩ := blk3 pb
        obtain ⟨⟨n0, n1, n2⟩, l0, l1, l2⟩ := blk3 pR
        obtain ⟨⟨q0, q1, q2⟩, hk⟩ := stored3 pR (.slice bF f.length cF) (.slice a2 len2 k2') (.slice a3 len3 k3')
        replace q0 := Lib.hid q0
        replace q1 := Lib.hid q1
        replace q2 := Lib.hid q2
        go_wp2
        refine bodyPost_ret (v := .tuple #[.agg #[.slice bF f.length cF, .slice a2 len2 k2', .slice a3 len3 k3'], .bool true]) (by simp [results, Try.results37, go_sem, q0.out, q1.out, q2.out]) rfl ⟨_, rfl, ?_, hBel.trans (hk.below (fun k h => by omega) (by have := hBel.size; omega))⟩
        rw [hF.out]
        exact flipT_end hE.out o1 o2 o3 hk ltot

end Go.Proofs.Ytikfddppjalfdaa
