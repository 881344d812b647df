/- The contracts of FlipRule on both sides; conditions: none. -/
import Derived.Test.YtikfddppjalfdaaNamed
import Derived.Test.YtikfddppjalfdaaAppG
import Derived.Test.YtikfddppjalfdaaBits
namespace Go.Proofs.Ytikfddppjalfdaa
open Go.RowKit

theorem OwnR.inG {w : World} {B : Nat} {G : Nat → Prop} {v : Value} {xss : List (List Int)} (h : OwnR w B G v xss) : OwnR w B (fun k => G k ∧ B ≤ k ∧ k < w.heap.size) v xss := by
  obtain ⟨vs, hs, hn, hr, hd, hf, hg⟩ := h
  exact ⟨vs, hs, hn, hr, hd, fun g e => ⟨hf g e, hs.lt g e⟩, fun i h1 g e => ⟨hg i h1 g e, OwnS.lt (hr i h1 (by omega)) g e⟩⟩

theorem OwnF.inF {w : World} {B : Nat} {G : Nat → Prop} {v : Value} {xs : List Int} (h : OwnF w B G v xs) : OwnF w B (fun k => G k ∧ B ≤ k ∧ k < w.heap.size) v xs :=
  ⟨h.1, h.2.1, fun g e => ⟨h.2.2 g e, OwnS.lt h.1 g e⟩⟩
def flipRow (y : List Int) : List Int := mapR (fun i => 1 - y.getD i 0) 4
def flipU (r : RuleD) : RuleD := if ruleB r then ⟨r.f, r.a, mapR (fun k => flipRow (r.s.getD k [])) 2⟩ else ⟨[], [], []⟩
theorem flipU_no {r : RuleD} (h : ruleB r = false) : flipU r = ⟨[], [], []⟩ := by simp [flipU, h]
theorem bitsB_len {n : Nat} {xs : List Int} (h : bitsB n xs = true) : xs.length = n ∧ ∀ y ∈ xs, 0 ≤ y ∧ y ≤ 1 := by
  unfold bitsB at h
  simp only [Bool.and_eq_true, beq_iff_eq, List.all_eq_true, inB_iff] at h
  exact ⟨by omega, h.2⟩
theorem tbl_two {n : Nat} {t : List (List Int)} (h : tblB 2 n t = true) : ∃ x y, t = [x, y] ∧ (x.length = n ∧ ∀ q ∈ x, 0 ≤ q ∧ q ≤ 1) ∧ (y.length = n ∧ ∀ q ∈ y, 0 ≤ q ∧ q ≤ 1) := by
  unfold tblB at h
  simp only [Bool.and_eq_true, beq_iff_eq] at h
  match t, h with
  | [x, y], h =>
    simp only [List.all_cons, List.all_nil, Bool.and_true, Bool.and_eq_true] at h
    exact ⟨x, y, rfl, bitsB_len h.1.1, bitsB_len h.1.2⟩
theorem rule_parts {r : RuleD} (h : ruleB r = true) : ∃ f x0 x1 y0 y1, r = ⟨f, [x0, x1], [y0, y1]⟩ ∧ (f.length = 2 ∧ ∀ q ∈ f, 0 ≤ q ∧ q ≤ 1) ∧ (x0.length = 2 ∧ ∀ q ∈ x0, 0 ≤ q ∧ q ≤ 1) ∧ (x1.length = 2 ∧ ∀ q ∈ x1, 0 ≤ q ∧ q ≤ 1) ∧
    (y0.length = 4 ∧ ∀ q ∈ y0, 0 ≤ q ∧ q ≤ 1) ∧ (y1.length = 4 ∧ ∀ q ∈ y1, 0 ≤ q ∧ q ≤ 1) := by
  unfold ruleB at h
  simp only [Bool.and_eq_true] at h
  obtain ⟨x0, x1, e1, a0, a1⟩ := tbl_two (n := 2) h.2.1
  obtain ⟨y0, y1, e2, b0, b1⟩ := tbl_two (n := 4) h.2.2
  exact ⟨r.f, x0, x1, y0, y1, by rw [← e1, ← e2], bitsB_len (n := 2) h.1, a0, a1, b0, b1⟩

/-- the parts of a rule under construction lie apart -/
def FlipD (F1 F2 G : Nat → Prop) (bo lo hi : Nat) : Prop := (∀ k, F1 k → ¬ F2 k) ∧ (∀ k, F1 k → ¬ G k) ∧ (∀ k, F2 k → ¬ G k) ∧ ¬ F1 bo ∧ ¬ F2 bo ∧ ¬ G bo ∧ (∀ k, F1 k → lo ≤ k ∧ k < hi) ∧ (∀ k, F2 k → lo ≤ k ∧ k < hi) ∧ (∀ k, G k → lo ≤ k) ∧ (∀ k, hi ≤ k → G k) ∧ lo ≤ bo ∧ bo < hi

/-- a rule under construction at block bo, behind the box and the result's variable -/
def FlipS (B bo : Nat) (F1 F2 G : Nat → Prop) (v1 v2 z1 z2 z3 : Value) (f : List Int) (a s : List (List Int)) (w wr : World) : Prop :=
  ∃ a3 n3 k3, wr.heap[bo]? = some (.cells #[v1, v2, .slice a3 n3 k3] 25 (0, 0)) ∧ wr.heap[B]? = some (.cells #[z1, z2, z3] 25 (0, 0)) ∧ wr.heap[B + 1]? = some (.cells #[.slice none 0 0, .slice none 0 0, .slice none 0 0] 25 (0, 0)) ∧
    OwnF wr B F1 v1 f ∧ OwnQ wr B F2 v2 a ∧ OwnR wr B G (.slice a3 n3 k3) s ∧ Below B w wr ∧ bo < wr.heap.size ∧ B + 1 < wr.heap.size

theorem OwnR.blk {w : World} {B : Nat} {F : Nat → Prop} {v : Value} {xss : List (List Int)} (h : OwnR w B F v xss) : ∀ g, v.ownBlock = some g → F g := by
  obtain ⟨vs, hs, hn, hr, hd, hf, hg⟩ := h
  exact hf
theorem kept_alloc (F : Nat → Prop) (w : World) (o : Obj) : KeptOff F w (w.alloc o) := ⟨rfl, rfl, rfl, by simp, fun k hk _ => heap_alloc_old w o hk⟩

theorem flip_step {B bo lo hi : Nat} {F1 F2 G : Nat → Prop} {v1 v2 z1 z2 z3 u : Value} {f : List Int} {a s' : List (List Int)} {w wr w5 : World} {a3 a5 : Option Addr} {n3 k3 n5 k5 : Nat} (hd : FlipD F1 F2 G bo lo hi) (hlo : B + 1 < lo)
    (pb : wr.heap[bo]? = some (.cells #[v1, v2, u] 25 (0, 0))) (pB : wr.heap[B]? = some (.cells #[z1, z2, z3] 25 (0, 0))) (pR : wr.heap[B + 1]? = some (.cells #[.slice none 0 0, .slice none 0 0, .slice none 0 0] 25 (0, 0)))
    (o1 : OwnF wr B F1 v1 f) (o2 : OwnQ wr B F2 v2 a) (hBel : Below B w wr) (hw : B ≤ wr.heap.size)
    (hg : KeptOff (fun k => (Value.slice a3 n3 k3).ownBlock = some k) wr w5) (hv : ∀ g, (Value.slice a3 n3 k3).ownBlock = some g → G g) (ho : OwnR w5 B G (.slice a5 n5 k5) s') :
    w5.heap[bo]? = some (.cells #[v1, v2, u] 25 (0, 0)) ∧ FlipS B bo F1 F2 G v1 v2 z1 z2 z3 f a s' w (w5.setCell ⟨bo, 2, none⟩ (.slice a5 n5 k5)) := by
  obtain ⟨d1, d2, d3, d4, d5, d6, d7, d8, d9, d10, d11, d12⟩ := hd
  have hl := fun {k : Nat} {o : Obj} (h : wr.heap[k]? = some o) => (Array.getElem?_eq_some_iff.1 h).1
  have qb := (hg.block bo (hl pb) fun e => d6 (hv _ e)).trans pb
  have qB := (hg.block B (hl pB) fun e => by have := d9 _ (hv _ e); omega).trans pB
  have qR := (hg.block (B + 1) (hl pR) fun e => by have := d9 _ (hv _ e); omega).trans pR
  have hk := keptOff_set w5 bo 2 (.slice a5 n5 k5)
  have hs := hg.size
  have := hl pb
  have := hl pR
  refine ⟨qb, a5, n5, k5, blk_set qb, blk_other qB (by omega), blk_other qR (by omega), (o1.off hg fun k h e => d2 k h (hv _ e)).off hk (fun k h e => d4 (e ▸ h)), (o2.off hg fun k h e => d3 k h (hv _ e)).off hk (fun k h e => d5 (e ▸ h)),
    ho.off hk (fun k h e => d6 (e ▸ h)), (hBel.trans (hg.below (fun k e => by have := d9 _ (hv _ e); omega) hw)).trans (hk.below (fun k e => by omega) (by omega)), ?_, ?_⟩
  · have := hk.size; omega
  · have := hk.size; omega

theorem flip_end {B bo lo hi : Nat} {F1 F2 G : Nat → Prop} {v1 v2 v3 : Value} {f : List Int} {a s : List (List Int)} {wr w' : World} (hd : FlipD F1 F2 G bo lo hi) (hlo : B + 1 < lo) (o1 : OwnF wr B F1 v1 f) (o2 : OwnQ wr B F2 v2 a) (o3 : OwnR wr B G v3 (mapR (fun k => flipRow (s.getD k [])) 2))
    (hk : KeptOff (fun k => k = B + 1) wr w') : OwnU w' B (fun k => B ≤ k ∧ k < w'.heap.size) (.agg #[v1, v2, v3]) ⟨f, a, mapR (fun k => flipRow (s.getD k [])) 2⟩ := by
  obtain ⟨d1, d2, d3, d4, d5, d6, d7, d8, d9, d10, d11, d12⟩ := hd
  have hs := hk.size
  refine ⟨v1, v2, v3, rfl, _, _, _, (o1.inF).off hk (fun k h e => by have := d7 k h.1; omega), ⟨(o2.1.inG).off hk (fun k h e => by have := d8 k h.1; omega), o2.2⟩, ⟨(o3.inG).off hk (fun k h e => by have := d9 k h.1; omega), by simp [mapR, totR, flipRow, List.range_succ]⟩, ?_, ?_, ?_, ?_, ?_, ?_⟩
  · exact fun k h => ⟨h.2.1, by have := h.2.2; omega⟩
  · exact fun k h => ⟨h.2.1, by have := h.2.2; omega⟩
  · exact fun k h => ⟨h.2.1, by have := h.2.2; omega⟩
  · exact fun k a b => d1 k a.1 b.1
  · exact fun k a b => d2 k a.1 b.1
  · exact fun k a b => d3 k a.1 b.1

set_option maxHeartbeats 4000000 in
theorem c_spec_FlipRule (v : Value) (r : RuleD) (w : World) (h : RuleR w v r) :
    Calls Try.prog 36 #[v] w fun e w' => ∃ v', e = .returned (.tuple #[v', .bool (ruleB r)]) ∧ OwnU w' w.heap.size (fun k => w.heap.size ≤ k ∧ k < w'.heap.size) v' (flipU r) ∧ Below w.heap.size w w' := by
  obtain ⟨v1, n1, k1, v2, n2, k2, v3, n3, k3, rfl⟩ := h.shape
  have hA := ((Below.refl w.heap.size w).alloc (Nat.le_refl _) (.cells #[.slice v1 n1 k1, .slice v2 n2 k2, .slice v3 n3 k3] 25)).alloc (by simp) (.cells #[.slice none 0 0, .slice none 0 0, .slice none 0 0] 25)
  cases hn : ruleB r
  · have hF := Lib.hid (flipU_no hn)
    replace hn := Lib.hid hn
    go_enter Try.func36, Try.ntmps36
    go_wp2_with fail
    refine (c_l10Rule _ r _ (h.below hA)).mono ?_
    rintro e w1 ⟨rfl, hb1⟩
    rw [hn.out]
    have p0 : w1.heap[w.heap.size + 1]? = some (.cells #[.slice none 0 0, .slice none 0 0, .slice none 0 0] 25 (0, 0)) := blk_later hb1 (heap_alloc_at (by simp))
    obtain ⟨⟨c0, c1, c2⟩, f0, f1, f2⟩ := blk3 p0
    obtain ⟨⟨q0, q1, q2⟩, hk⟩ := stored3 p0 (.slice none 0 0) (.slice none 0 0) (.slice none 0 0)
    replace q0 := Lib.hid q0
    replace q1 := Lib.hid q1
    replace q2 := Lib.hid q2
    have hz := hb1.size
    simp only [World.size_alloc] at hz
    replace hz := Lib.hid hz
    go_wp2
    refine bodyPost_ret (v := .tuple #[.agg #[.slice none 0 0, .slice none 0 0, .slice none 0 0], .bool false]) (by simp [results, Try.results36, go_sem, q0.out, q1.out, q2.out]) rfl
      ⟨_, rfl, by rw [hF.out]; exact ownU_nil _ _ _, (hA.trans (hb1.mono (by simp <;> omega))).trans (hk.below (fun k h => by omega) (by have := hz.out; omega))⟩
  · obtain ⟨f, x0, x1, y0, y1, rfl, ⟨lf, bf⟩, ⟨lx0, bx0⟩, ⟨lx1, bx1⟩, hy0, hy1⟩ := rule_parts hn
    have hF : Hid (flipU ⟨f, [x0, x1], [y0, y1]⟩ = ⟨f, [x0, x1], mapR (fun k => flipRow ([y0, y1].getD k [])) 2⟩) := Lib.hid (by simp [flipU, hn])
    replace hn := Lib.hid hn
    clear bf bx0 bx1
    have lf0 : 0 < f.length ∧ f.length ≤ 1000 := by omega
    have lx00 : 0 < x0.length ∧ x0.length ≤ 1000 := by omega
    have lx10 : 0 < x1.length ∧ x1.length ≤ 1000 := by omega
    have ltot : Hid ([x0, x1].length + totR [x0, x1] ≤ 1099511627776) := Lib.hid (by simp [totR]; omega)
    clear lf lx0 lx1
    obtain ⟨_, _, _, e, h1, h2, h3⟩ := id h
    cases e
    obtain ⟨_, _, e, -⟩ := h1.out
    cases e
    obtain ⟨bA, oA, a0, c0, rfl, hltA, cA0, i0⟩ := h2.at 0 (by simp)
    obtain ⟨_, _, a1, c1, e, -, cA1, i1⟩ := h2.at 1 (by simp)
    cases e
    obtain ⟨_, _, e, -⟩ := h2.out
    cases e
    obtain ⟨_, _, e, -⟩ := h3.out
    cases e
    obtain ⟨bS, oS, _, _, rfl, hltS, -, -⟩ := h3.at 0 (by simp)
    replace cA0 : w.cell? ⟨bA, oA, none⟩ = some (.slice a0 x0.length c0) := cA0
    replace cA1 : w.cell? ⟨bA, oA + 1, none⟩ = some (.slice a1 x1.length c1) := cA1
    replace i0 : Ints w (.slice a0 x0.length c0) x0 := i0
    replace i1 : Ints w (.slice a1 x1.length c1) x1 := i1
    replace hy0 := Lib.hid hy0
    replace hy1 := Lib.hid hy1
    go_enter Try.func36, Try.ntmps36
    go_wp2_with fail
    refine (c_l10Rule _ ⟨f, [x0, x1], [y0, y1]⟩ _ (h.below hA)).mono ?_
    rintro e w1 ⟨rfl, hb1⟩
    rw [hn.out]
    have p0 : w1.heap[w.heap.size]? = some (.cells #[.slice v1 f.length k1, .slice (some ⟨bA, oA, none⟩) 2 k2, (.slice (some ⟨bS, oS, none⟩) 2 k3)] 25 (0, 0)) := blk_later hb1 (by repeat (first | (refine heap_alloc_at ?_; simp; done) | (refine (heap_alloc_old _ _ ?_).trans ?_; · (simp <;> omega))))
    have p1 : w1.heap[w.heap.size + 1]? = some (.cells #[.slice none 0 0, .slice none 0 0, .slice none 0 0] 25 (0, 0)) := blk_later hb1 (heap_alloc_at (by simp))
    replace hA := hA.trans (hb1.mono (by simp <;> omega))
    have hz := hb1.size
    simp only [World.size_alloc] at hz
    rw [← (bcell hA).1 _ _ hltA] at cA0 cA1
    replace hltA : bA < w1.heap.size := by omega
    obtain ⟨⟨z0, z1, z2⟩, -⟩ := blk3 p0
    clear hb1
    go_wp2_with fail
    refine wp_region_rk (by kernel_rfl) [none, none, none, none, some 16, none, none, none, none, none, none, none, some 0, some 1, some 2, some 3, some 4, some 5, some 6, some 7, some 8, some 9, some 10, some 11, some 12, some 13, some 14, some 15] 17 (by kernel_rfl) (by kernel_rfl) (by kernel_rfl) _ rfl w.heap.size [rkV (.pointer (some ⟨w.heap.size, 0, none⟩)), rkV (.slice v1 f.length k1), rkL (f), rkV (.pointer (some ⟨w.heap.size, 1, none⟩)), rkV (.slice (some ⟨bA, oA, none⟩) 2 k2), rkV (.pointer (some ⟨bA, oA, none⟩)), rkV (.slice a0 x0.length c0), rkL (x0), rkV (.pointer (some ⟨w.heap.size, 1, none⟩)), rkV (.slice (some ⟨bA, oA, none⟩) 2 k2), rkV (.pointer (some ⟨bA, oA + 1, none⟩)), rkV (.slice a1 x1.length c1), rkL (x1), rkS [7, 12], rkS [], rkA [2, 13, 14], rkN (.cells #[.slice none 0 0, .slice none 0 0, .slice none 0 0] 25)] _ rfl (by kernel_rfl) (by simp) ?_ ?_
    · intro i o ho hi u g ww hbw hd
      have hall : Below w.heap.size w ww := hA.trans (hbw.mono (by omega))
      have hlow : w.heap.size ≤ ww.heap.size := hall.size
      obtain ⟨hcl, hfr⟩ := bcell hbw
      have y_z0 := (hcl _ _ (by omega)).trans z0
      have y_z1 := (hcl _ _ (by omega)).trans z1
      have y_cA0 := (hcl _ _ (by omega)).trans cA0
      have y_cA1 := (hcl _ _ (by omega)).trans cA1
      clear hcl hfr
      rcases i with _ | _ | _ | _ | _ | _ | _ | _ | _ | _ | _ | _ | _ | _ | _ | _ | _ | _ | i
      all_goals try obtain rfl := Option.some.inj ho
      all_goals try simp only [putAll, fillL]
      · go_wp2
        exact ⟨_, rfl, kept0 (Below.refl _ _), rfl⟩
      · have e0 : u 0 = .pointer (some ⟨w.heap.size, 0, none⟩) := hd 0 (by decide)
        rw [e0]
        go_wp2
        exact ⟨_, by simp only [putAll, fillL, e0] <;> rfl, kept0 (Below.refl _ _), rfl⟩
      · have e1 : u 1 = .slice v1 f.length k1 := hd 1 (by decide)
        rw [e1]
        go_wp2_with fail
        refine (c_l1Own _ f _ (h1.below hall) lf0.1 (by omega)).mono ?_
        rintro e wn ⟨vn, rfl, hvn, hbn⟩
        go_wp2
        exact ⟨_, by simp only [putAll, fillL, e1] <;> rfl, kept0 hbn, ⟨hvn.mono hlow, hvn.le, OwnS.lt hvn⟩⟩
      · go_wp2
        exact ⟨_, rfl, kept0 (Below.refl _ _), rfl⟩
      · have e3 : u 3 = .pointer (some ⟨w.heap.size, 1, none⟩) := hd 3 (by decide)
        rw [e3]
        go_wp2
        exact ⟨_, by simp only [putAll, fillL, e3] <;> rfl, kept0 (Below.refl _ _), rfl⟩
      · have e4 : u 4 = .slice (some ⟨bA, oA, none⟩) 2 k2 := hd 4 (by decide)
        rw [e4]
        go_wp2
        exact ⟨_, by simp only [putAll, fillL, e4] <;> rfl, kept0 (Below.refl _ _), rfl⟩
      · have e5 : u 5 = .pointer (some ⟨bA, oA, none⟩) := hd 5 (by decide)
        rw [e5]
        go_wp2
        exact ⟨_, by simp only [putAll, fillL, e5] <;> rfl, kept0 (Below.refl _ _), rfl⟩
      · have e6 : u 6 = .slice a0 x0.length c0 := hd 6 (by decide)
        rw [e6]
        go_wp2_with fail
        refine (c_l1Own _ x0 _ (i0.below hall) lx00.1 (by omega)).mono ?_
        rintro e wn ⟨vn, rfl, hvn, hbn⟩
        go_wp2
        exact ⟨_, by simp only [putAll, fillL, e6] <;> rfl, kept0 hbn, ⟨hvn.mono hlow, hvn.le, OwnS.lt hvn⟩⟩
      · go_wp2
        exact ⟨_, rfl, kept0 (Below.refl _ _), rfl⟩
      · have e8 : u 8 = .pointer (some ⟨w.heap.size, 1, none⟩) := hd 8 (by decide)
        rw [e8]
        go_wp2
        exact ⟨_, by simp only [putAll, fillL, e8] <;> rfl, kept0 (Below.refl _ _), rfl⟩
      · have e9 : u 9 = .slice (some ⟨bA, oA, none⟩) 2 k2 := hd 9 (by decide)
        rw [e9]
        go_wp2
        exact ⟨_, by simp only [putAll, fillL, e9] <;> rfl, kept0 (Below.refl _ _), rfl⟩
      · have e10 : u 10 = .pointer (some ⟨bA, oA + 1, none⟩) := hd 10 (by decide)
        rw [e10]
        go_wp2
        exact ⟨_, by simp only [putAll, fillL, e10] <;> rfl, kept0 (Below.refl _ _), rfl⟩
      · have e11 : u 11 = .slice a1 x1.length c1 := hd 11 (by decide)
        rw [e11]
        go_wp2_with fail
        refine (c_l1Own _ x1 _ (i1.below hall) lx10.1 (by omega)).mono ?_
        rintro e wn ⟨vn, rfl, hvn, hbn⟩
        go_wp2
        exact ⟨_, by simp only [putAll, fillL, e11] <;> rfl, kept0 hbn, ⟨hvn.mono hlow, hvn.le, OwnS.lt hvn⟩⟩
      · have d7 : OwnF ww w.heap.size (InI (g 7)) (u 7) _ := hd 7 (by decide)
        obtain ⟨p7, q7, e7, -⟩ := d7.rd.out
        rw [e7]
        have d12 : OwnF ww w.heap.size (InI (g 12)) (u 12) _ := hd 12 (by decide)
        obtain ⟨p12, q12, e12, -⟩ := d12.rd.out
        rw [e12]
        go_wp2
        exact ⟨_, by simp only [putAll, fillL, e7, e12] <;> rfl, kept0 ((Below.refl _ _).alloc (Nat.le_refl _) _), own_rowsI ww w.heap.size _ [u 7, u 12] 2 (by rw [e7, e12]; rfl) rfl hlow (by simp)⟩
      · go_wp2
        exact ⟨_, rfl, kept0 ((Below.refl _ _).alloc (Nat.le_refl _) _), own_rowsI ww w.heap.size _ [] 0 (by rfl) rfl hlow (by simp)⟩
      · have d2 : OwnF ww w.heap.size (InI (g 2)) (u 2) _ := hd 2 (by decide)
        obtain ⟨p2, q2, e2, -⟩ := d2.rd.out
        rw [e2]
        have d13 := (hd 13 (by decide) : OwnS ww w.heap.size _ (u 13) _ ∧ _).1
        obtain ⟨p13, q13, e13, -⟩ := d13.sl
        rw [e13]
        have d14 := (hd 14 (by decide) : OwnS ww w.heap.size _ (u 14) _ ∧ _).1
        obtain ⟨p14, q14, e14, -⟩ := d14.sl
        rw [e14]
        go_wp2
        exact ⟨_, by simp only [putAll, fillL, e2, e13, e14] <;> rfl, kept0 (Below.refl _ _), by simp [rkH, rkA, e2, e13, e14]⟩
      · go_wp2
        exact ⟨_, rfl, kept0 ((Below.refl _ _).alloc (Nat.le_refl _) _), rfl, heap_alloc_at rfl, by simp⟩
      · exact absurd rfl hi
      · simp at ho
    · intro u g w2 hbw hR hAp
      have r2 : OwnF w2 w.heap.size (InI (g 2)) (u 2) f := hR 2 (by decide) (by decide)
      have r7 : OwnF w2 w.heap.size (InI (g 7)) (u 7) x0 := hR 7 (by decide) (by decide)
      have r12 : OwnF w2 w.heap.size (InI (g 12)) (u 12) x1 := hR 12 (by decide) (by decide)
      have r13 : OwnS w2 w.heap.size 22 (u 13) [u 7, u 12] ∧ ∀ q, (u 13).ownBlock = some q → InI (g 13) q := hR 13 (by decide) (by decide)
      have r14 : OwnS w2 w.heap.size 22 (u 14) [] ∧ ∀ q, (u 14).ownBlock = some q → InI (g 14) q := hR 14 (by decide) (by decide)
      have r15 : u 15 = .agg #[u 2, u 13, u 14] := hR 15 (by decide) (by decide)
      have r16 : u 16 = .pointer (some ⟨(g 16).1, 0, none⟩) ∧ w2.heap[(g 16).1]? = some (.cells #[.slice none 0 0, .slice none 0 0, .slice none 0 0] 25 (0, 0)) ∧ (g 16).1 < (g 16).2 := hR 16 (by decide) (by decide)
      have two := fun i j (hi : i < 17) (hj : j < 17) (hne : i ≠ j) => hAp.two i j ⟨Nat.lt_of_lt_of_le hi (by decide), by omega⟩ ⟨Nat.lt_of_lt_of_le hj (by decide), by omega⟩ hne
      have inn := fun i (hi : i < 17) => hAp.inn i ⟨Nat.lt_of_lt_of_le hi (by decide), by omega⟩
      obtain ⟨F1, F2, G, bo, o1, o2, o3, hbo, pbo, hd⟩ : ∃ (F1 F2 G : Nat → Prop) (bo : Nat), OwnF w2 w.heap.size F1 (u 2) f ∧ OwnQ w2 w.heap.size F2 (u 13) [x0, x1] ∧ OwnR w2 w.heap.size G (u 14) [] ∧ u 16 = .pointer (some ⟨bo, 0, none⟩) ∧
          w2.heap[bo]? = some (.cells #[.slice none 0 0, .slice none 0 0, .slice none 0 0] 25 (0, 0)) ∧ FlipD F1 F2 G bo w1.heap.size w2.heap.size := by
        have i16 := inn 16 (by decide)
        refine ⟨InI (g 2), fun k => InI (g 13) k ∨ InI (g 7) k ∨ InI (g 12) k, fun k => InI (g 14) k ∨ w2.heap.size ≤ k, (g 16).1, r2,
          ⟨ownR_two r13.1 r7.1 r12.1 (fun q a b => dis (two 7 12 (by decide) (by decide) (by decide)) q (r7.2.2 q a) (r12.2.2 q b)) (fun q a => .inl (r13.2 q a)) (fun q a => .inr (.inl (r7.2.2 q a))) (fun q a => .inr (.inr (r12.2.2 q a))), ltot.out⟩,
          ⟨[], r14.1, rfl, fun i h => by simp at h, fun i j h => by simp at h, fun q a => .inl (r14.2 q a), fun i h => by simp at h⟩, r16.1, r16.2.1, ?_⟩
        have i2 := inn 2 (by decide)
        have i7 := inn 7 (by decide)
        have i12 := inn 12 (by decide)
        have i13 := inn 13 (by decide)
        have i14 := inn 14 (by decide)
        have a1 := two 2 13 (by decide) (by decide) (by decide)
        have a2 := two 2 7 (by decide) (by decide) (by decide)
        have a3 := two 2 12 (by decide) (by decide) (by decide)
        have a4 := two 2 14 (by decide) (by decide) (by decide)
        have a5 := two 2 16 (by decide) (by decide) (by decide)
        have a6 := two 13 14 (by decide) (by decide) (by decide)
        have a7 := two 7 14 (by decide) (by decide) (by decide)
        have a8 := two 12 14 (by decide) (by decide) (by decide)
        have a9 := two 13 16 (by decide) (by decide) (by decide)
        have a10 := two 7 16 (by decide) (by decide) (by decide)
        have a11 := two 12 16 (by decide) (by decide) (by decide)
        have a12 := two 14 16 (by decide) (by decide) (by decide)
        have lt := r16.2.2
        clear hR hAp two inn r2 r7 r12 r13 r14 r15 r16 ltot
        unfold FlipD InI
        generalize g 2 = y2 at *
        generalize g 7 = y7 at *
        generalize g 12 = y12 at *
        generalize g 13 = y13 at *
        generalize g 14 = y14 at *
        generalize g 16 = y16 at *
        refine ⟨fun k a b => ?_, fun k a b => ?_, fun k a b => ?_, fun a => ?_, fun a => ?_, fun a => ?_, fun k a => ?_, fun k a => ?_, fun k a => ?_, fun k a => ?_, ?_, ?_⟩
        all_goals omega
      have r15 : u 15 = .agg #[u 2, u 13, u 14] := hR 15 (by decide) (by decide)
      clear hR hAp two inn r2 r7 r12 r13 r14 r16 ltot
      obtain ⟨b0, c0', e0, -⟩ := o1.rd.out
      obtain ⟨b1, c1', e1, -⟩ := o2.rd.out
      obtain ⟨b2, c2', e2, -⟩ := o3.rows.out
      rw [e0, e1, e2] at r15
      rw [e0] at o1
      rw [e1] at o2
      rw [e2] at o3
      obtain ⟨-, hk⟩ := stored3 pbo (.slice b0 f.length c0') (.slice b1 2 c1') (.slice b2 0 c2')
      have q0 := blk_set (j := 2) (v := Value.slice b2 0 c2') (blk_set (j := 1) (v := Value.slice b1 2 c1') (blk_set (j := 0) (v := Value.slice b0 f.length c0') pbo))
      obtain ⟨⟨x3, x4, x5⟩, f3, f4, f5⟩ := blk3 pbo
      have hall := hA.trans (hbw.mono (by omega))
      have p0' := blk_later hbw p0
      have p1' := blk_later hbw p1
      have hst : FlipS w.heap.size bo F1 F2 G (.slice b0 f.length c0') (.slice b1 2 c1') (.slice v1 f.length k1) (.slice (some ⟨bA, oA, none⟩) 2 k2) (.slice (some ⟨bS, oS, none⟩) 2 k3) f [x0, x1] [] w
          (((w2.setCell ⟨bo, 0, none⟩ (.slice b0 f.length c0')).setCell ⟨bo, 1, none⟩ (.slice b1 2 c1')).setCell ⟨bo, 2, none⟩ (.slice b2 0 c2')) := by
        refine ⟨b2, 0, c2', q0, (hk.block _ (by have := hbw.size; omega) (by have := hd.2.2.2.2.2.2.2.2.2.2.1; omega)).trans p0', (hk.block _ (by have := hbw.size; omega) (by have := hd.2.2.2.2.2.2.2.2.2.2.1; omega)).trans p1', o1.off hk (fun k a b => hd.2.2.2.1 (b ▸ a)), o2.off hk (fun k a b => hd.2.2.2.2.1 (b ▸ a)), o3.off hk (fun k a b => hd.2.2.2.2.2.1 (b ▸ a)), hall.trans (hk.below (fun k h => by have := hd.2.2.2.2.2.2.2.2.2.2.1; omega) (by have := hall.size; omega)), ?_⟩
        have := hk.size; have := hd.2.2.2.2.2.2.2.2.2.2.2; have := hbw.size; omega
      clear hk q0 o1 o2 o3 p0' p1' hall
      replace hd := Lib.hid hd
      simp only [putAll, fillL]
      rw [hbo, r15]
      clear hbo r15 e0 e1 e2
      have hsz3 : w2.heap.size ≤ (((w2.setCell ⟨bo, 0, none⟩ (.slice b0 f.length c0')).setCell ⟨bo, 1, none⟩ (.slice b1 2 c1')).setCell ⟨bo, 2, none⟩ (.slice b2 0 c2')).heap.size := by simp
      replace hsz3 := Lib.hid hsz3
      go_wp2_with fail
      obtain ⟨w3, hw3⟩ : ∃ w3, w3 = (((w2.setCell ⟨bo, 0, none⟩ (.slice b0 f.length c0')).setCell ⟨bo, 1, none⟩ (.slice b1 2 c1')).setCell ⟨bo, 2, none⟩ (.slice b2 0 c2')) := ⟨_, rfl⟩
      rw [← hw3] at hst hsz3 ⊢
      replace hsz3 := hsz3.out
      clear hw3 x3 x4 x5 f3 f4 f5 pbo hbw p0 p1 z0 z1 z2 cA0 cA1 hA
      go_loopw [5] (fun x wr => ∃ k : Nat, k ≤ 2 ∧ x = .int .i64 k ∧ FlipS w.heap.size bo F1 F2 G (.slice b0 f.length c0') (.slice b1 2 c1') (.slice v1 f.length k1) (.slice (some ⟨bA, oA, none⟩) 2 k2) (.slice (some ⟨bS, oS, none⟩) 2 k3) f [x0, x1] (mapR (fun k => flipRow ([y0, y1].getD k [])) k) w wr ∧ w2.heap.size ≤ wr.heap.size) (fun x _ => 2 - (intOf x).toNat)
      case atStart => exact ⟨0, Nat.zero_le _, rfl, hst, hsz3⟩
      case round =>
        obtain ⟨k, hk2, rfl, hst, hszw⟩ := hrel
        by_cases hlt : k < 2
        · obtain ⟨wo, rfl⟩ : ∃ wo : World, wo = wr := ⟨_, rfl⟩
          obtain ⟨a3, n3, k3', pb, pB, pR, o1, o2, o3, hBel, hlo, hl1⟩ := hst
          obtain ⟨y, aY, cY, hy, cS, iY, ly, byy⟩ : ∃ y aY cY, Hid ([y0, y1].getD k [] = y) ∧ w.cell? ⟨bS, oS + k, none⟩ = some (.slice aY y.length cY) ∧ Ints w (.slice aY y.length cY) y ∧ Hid (y.length = 4) ∧ Hid (∀ q ∈ y, 0 ≤ q ∧ q ≤ 1) := by
            obtain ⟨b, o, a', c', e, -, hc, hi⟩ := h3.at k (by simpa using hlt)
            cases e
            refine ⟨_, a', c', Lib.hid ?_, hc, hi, Lib.hid ?_, Lib.hid ?_⟩
            · rw [List.getD, List.getElem?_eq_getElem (by simpa using hlt)]; rfl
            · have : k = 0 ∨ k = 1 := by omega
              rcases this with rfl | rfl
              · exact hy0.out.1
              · exact hy1.out.1
            · have : k = 0 ∨ k = 1 := by omega
              rcases this with rfl | rfl
              · exact hy0.out.2
              · exact hy1.out.2
          have hly : 4 ≤ y.length ∧ y.length ≤ 4 := by have := ly.out; omega
          obtain ⟨bY, oY, rfl, -, -⟩ := iY.at 0 (by omega)
          have hd2 : decide ((k : Int) < 2) = true := by simp; omega
          have hd2 := Lib.hid hd2
          go_wp2
          go_loopw [6, 7] (fun v j wr => ∃ i : Nat, i ≤ 4 ∧ j = .int .i64 i ∧ OwnI wr wo.heap.size v (mapR (fun i => 1 - y.getD i 0) i) ∧ Below wo.heap.size wo wr) (fun _ j _ => 4 - (intOf j).toNat)
          case atStart => exact ⟨0, Nat.zero_le _, rfl, own_empty _ _ (Nat.le_refl _), (Below.refl _ _).alloc (Nat.le_refl _) _⟩
          case round =>
            obtain ⟨i, hi, rfl, hrow, hBo⟩ := hrel
            have hszo := hBo.size
            by_cases hlti : i < 4
            · have hall := bstep hBel hBo
              obtain ⟨⟨-, -, z2⟩, -⟩ := blk3 (blk_later hBo pB)
              have cS' := ((bcell hall).1 _ _ hltS).trans cS
              obtain ⟨_, _, e, hbY, cy⟩ := (iY.below hall).at i (by omega)
              cases e
              have by1 := byy.out y[i] (List.getElem_mem _)
              obtain ⟨by2, by3⟩ := by1
              have eY : Hid (y[i] = y.getD i 0) := Lib.hid (by simp [List.getD, show i < y.length by omega])
              have hd3 : decide ((i : Int) < 4) = true := by simp; omega
              go_wp2_with (at_builtin; refine wp_append_int _ _ rfl _ _ rfl wo.heap.size _ _ rfl hrow rfl (by first | rfl | simp) (by rw [mapR_len]; omega) hszo ?_; intro v' w4 hrow2 _ hB2 _)
              rw [eY.out, ← mapR_succ (fun i => 1 - y.getD i 0)] at hrow2
              go_roundw
              case rel => exact ⟨i + 1, by omega, by go_num, hrow2, hBo.trans hB2⟩
              case measure => simp [intOf]; omega
            · obtain rfl : i = 4 := by omega
              have hrow' : OwnI wr w.heap.size _ (flipRow y) := hrow.mono (by have := hBel.size; omega)
              obtain ⟨a6, c6, rfl, -, -⟩ := hrow.ints.out
              have hin : ∀ q, (Value.slice a6 (mapR (fun i => 1 - y.getD i 0) 4).length c6).ownBlock = some q → wo.heap.size ≤ q ∧ q < wr.heap.size := OwnS.lt hrow
              have o3i := o3.inG.below hBo
              have pb' := blk_later hBo pb
              have pB' := blk_later hBo pB
              have pR' := blk_later hBo pR
              have o1' := o1.below hBo
              have o2' := o2.below hBo
              have hall := bstep hBel hBo
              obtain ⟨⟨m0, m1, m2⟩, g0, g1, g2⟩ := blk3 pb'
              clear hrow
              go_wp2_with (at_builtin; refine wp_append_rowG _ rfl _ _ rfl w.heap.size _ _ _ rfl (o3i.below ((Below.refl _ _).alloc (Nat.le_refl _) _)) _ (flipRow y) (hrow'.below ((Below.refl _ _).alloc (Nat.le_refl _) _)) (fun q e h => by have a := hin q e; have b := h.2.2; omega) rfl (by simp [World.cell?_alloc_at]) (by rw [mapR_len]; omega) (by have := hBel.size; simp; omega) ?_; intro v' w5 hown5 hgr5 hne5; replace hown5 := hown5 G (fun q h => h.1) (fun q e => (hd.out.2.2.2.2.2.2.2.2.2.1 q (by have := hin q e; omega))) (fun q e _ => hd.out.2.2.2.2.2.2.2.2.2.1 q (by simp at e; omega)); rw [← hy.out, ← mapR_succ (fun k => flipRow ([y0, y1].getD k []))] at hown5; obtain ⟨a5, c5, rfl, -⟩ := hown5.rows.out; obtain ⟨pb5, hst5⟩ := flip_step hd.out (by omega) pb' pB' pR' o1' o2' hall (by have := hBel.size; omega) ((kept_alloc _ wr _).trans (grown_kept hgr5)) (fun q e => (o3i.blk q e).1) hown5; obtain ⟨⟨n0, n1, n2⟩, l0, l1, l2⟩ := blk3 pb5; have hsz5 := hgr5.size; simp only [World.size_alloc] at hsz5; clear hown5 hgr5 hne5 pb5 m0 m1 m2 g0 g1 g2 hrow' hin o3i pb' pB' pR' o1' o2')
              go_roundw
              case rel => exact ⟨k + 1, by omega, by go_num, hst5, by simp; omega⟩
              case measure => simp [intOf]; omega
        · obtain rfl : k = 2 := by omega
          obtain ⟨a3, n3, k3', pb, pB, pR, o1, o2, o3, hBel, hlo, hl1⟩ := hst
          obtain ⟨⟨m0, m1, m2⟩, g0, g1, g2⟩ := blk3 pb
          obtain ⟨⟨n0, n1, n2⟩, l0, l1, l2⟩ := blk3 pR
          obtain ⟨⟨q0, q1, q2⟩, hk⟩ := stored3 pR (.slice b0 f.length c0') (.slice b1 2 c1') (.slice a3 n3 k3')
          replace q0 := Lib.hid q0
          replace q1 := Lib.hid q1
          replace q2 := Lib.hid q2
          go_wp2
          refine bodyPost_ret (v := .tuple #[.agg #[.slice b0 f.length c0', .slice b1 2 c1', .slice a3 n3 k3'], .bool true]) (by simp [results, Try.results36, go_sem, q0.out, q1.out, q2.out]) rfl ⟨_, rfl, ?_, hBel.trans (hk.below (fun k h => by omega) (by have := hBel.size; omega))⟩
          rw [hF.out]
          exact flip_end hd.out (by omega) o1 o2 o3 hk
end Go.Proofs.Ytikfddppjalfdaa
