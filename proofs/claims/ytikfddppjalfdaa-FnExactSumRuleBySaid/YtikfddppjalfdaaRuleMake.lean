/- The rules that are made: l10Made and ruleOf; conditions: none. -/
import Derived.Test.YtikfddppjalfdaaRuleIs
import Derived.Test.YtikfddppjalfdaaRk
namespace Go.Proofs.Ytikfddppjalfdaa
open Go.RowKit

def madeU (a0 a1 a2 a3 : Int) (say : List Int) : RuleD := ⟨[0, 1], [[a0, a1], [a2, a3]], [say, say]⟩

/-- two rows -/
theorem ownR_two {w : World} {B : Nat} {v r1 r2 : Value} {x1 x2 : List Int} {F : Nat → Prop} (h : OwnS w B 22 v [r1, r2]) (h1 : OwnI w B r1 x1) (h2 : OwnI w B r2 x2)
    (hd : ∀ g, r1.ownBlock = some g → r2.ownBlock ≠ some g) (hF : ∀ g, v.ownBlock = some g → F g) (hF1 : ∀ g, r1.ownBlock = some g → F g) (hF2 : ∀ g, r2.ownBlock = some g → F g) : OwnR w B F v [x1, x2] := by
  refine ⟨[r1, r2], h, rfl, fun i a b => ?_, fun i j a b hne q e => ?_, hF, fun i a q e => ?_⟩
  · rcases i with _ | _ | i
    · exact h1
    · exact h2
    · simp at a; omega
  · rcases i with _ | _ | i <;> rcases j with _ | _ | j
    · exact absurd rfl hne
    · exact hd q e
    · simp at b; omega
    · intro e2; exact hd q e2 e
    · exact absurd rfl hne
    · simp at b; omega
    all_goals simp at a; omega
  · rcases i with _ | _ | i
    · exact hF1 q e
    · exact hF2 q e
    · simp at a; omega

theorem dis {x y : Nat × Nat} (h : x.2 ≤ y.1 ∨ y.2 ≤ x.1) (k : Nat) (a : InI x k) (b : InI y k) : False := by unfold InI at a b; omega
/-- a rule out of parts whose blocks lie in intervals apart -/
theorem ownU_made {w : World} {B : Nat} {v0 v1 v2 r1 r2 r3 r4 : Value} {a0 a1 a2 a3 : Int} {say : List Int} (x0 x1 x2 y1 y2 y3 y4 : Nat × Nat)
    (h0 : OwnF w B (InI x0) v0 [0, 1]) (h1 : OwnS w B 22 v1 [r1, r2] ∧ ∀ g, v1.ownBlock = some g → InI x1 g) (h2 : OwnS w B 22 v2 [r3, r4] ∧ ∀ g, v2.ownBlock = some g → InI x2 g)
    (k1 : OwnF w B (InI y1) r1 [a0, a1]) (k2 : OwnF w B (InI y2) r2 [a2, a3]) (k3 : OwnF w B (InI y3) r3 say) (k4 : OwnF w B (InI y4) r4 say)
    (hall : List.Pairwise (fun a b : Nat × Nat => a.2 ≤ b.1 ∨ b.2 ≤ a.1) [x0, x1, y1, y2, x2, y3, y4]) {F : Nat → Prop} (hF : ∀ x ∈ [x0, x1, y1, y2, x2, y3, y4], ∀ k, InI x k → F k) (hs : say.length ≤ 1000000) :
    OwnU w B F (.agg #[v0, v1, v2]) (madeU a0 a1 a2 a3 say) := by
  simp only [List.pairwise_cons, List.mem_cons, List.not_mem_nil, or_false, forall_eq_or_imp, forall_eq] at hall hF
  obtain ⟨⟨p1, p2, p3, p4, p5, p6⟩, ⟨p7, p8, p9, p10, p11⟩, ⟨p12, p13, p14, p15⟩, ⟨p16, p17, p18⟩, ⟨p19, p20⟩, p21, -⟩ := hall
  obtain ⟨f0, f1, f2, f3, f4, f5, f6⟩ := hF
  refine ⟨v0, v1, v2, rfl, InI x0, fun k => InI x1 k ∨ InI y1 k ∨ InI y2 k, fun k => InI x2 k ∨ InI y3 k ∨ InI y4 k, h0,
    ⟨ownR_two h1.1 k1.1 k2.1 (fun g a b => ?_) (fun g a => .inl (h1.2 g a)) (fun g a => .inr (.inl (k1.2.2 g a))) (fun g a => .inr (.inr (k2.2.2 g a))), by simp [madeU, totR]⟩,
    ⟨ownR_two h2.1 k3.1 k4.1 (fun g a b => ?_) (fun g a => .inl (h2.2 g a)) (fun g a => .inr (.inl (k3.2.2 g a))) (fun g a => .inr (.inr (k4.2.2 g a))), by simp [madeU, totR]; omega⟩, f0, ?_, ?_, ?_, ?_, ?_⟩
  · exact dis p12 g (k1.2.2 g a) (k2.2.2 g b)
  · exact dis p21 g (k3.2.2 g a) (k4.2.2 g b)
  · rintro k (h | h | h)
    · exact f1 k h
    · exact f2 k h
    · exact f3 k h
  · rintro k (h | h | h)
    · exact f4 k h
    · exact f5 k h
    · exact f6 k h
  · rintro k a (b | b | b)
    · exact dis p1 k a b
    · exact dis p2 k a b
    · exact dis p3 k a b
  · rintro k a (b | b | b)
    · exact dis p4 k a b
    · exact dis p5 k a b
    · exact dis p6 k a b
  · rintro k (a | a | a) (b | b | b)
    · exact dis p9 k a b
    · exact dis p10 k a b
    · exact dis p11 k a b
    · exact dis p13 k a b
    · exact dis p14 k a b
    · exact dis p15 k a b
    · exact dis p16 k a b
    · exact dis p17 k a b
    · exact dis p18 k a b

set_option maxHeartbeats 4000000 in
theorem c_l10Made (v t : Value) (a0 a1 a2 a3 : Int) (say : List Int) (w : World) (h : Ints w v [a0, a1, a2, a3]) (hs : Ints w t say) (hs0 : 0 < say.length) (hs1 : say.length ≤ 1000000) :
    Calls Try.prog 78 #[v, t] w fun e w' => ∃ v', e = .returned v' ∧ OwnU w' w.heap.size (fun k => w.heap.size ≤ k ∧ k < w'.heap.size) v' (madeU a0 a1 a2 a3 say) ∧ Below w.heap.size w w' := by
  obtain ⟨ad, cap, rfl, hl, -⟩ := h.out
  obtain ⟨aS, cs, rfl, hls, -⟩ := hs.out
  obtain ⟨bl, off, rfl, hb0, hc0⟩ := h.at 0 (by simp)
  obtain ⟨_, _, e, -, hc1⟩ := h.at 1 (by simp)
  cases e
  obtain ⟨_, _, e, -, hc2⟩ := h.at 2 (by simp)
  cases e
  obtain ⟨_, _, e, -, hc3⟩ := h.at 3 (by simp)
  cases e
  replace hc0 : w.cell? ⟨bl, off, none⟩ = some (.int .i64 a0) := hc0
  replace hc1 : w.cell? ⟨bl, off + 1, none⟩ = some (.int .i64 a1) := hc1
  replace hc2 : w.cell? ⟨bl, off + 2, none⟩ = some (.int .i64 a2) := hc2
  replace hc3 : w.cell? ⟨bl, off + 3, none⟩ = some (.int .i64 a3) := hc3
  have hA := (Below.refl w.heap.size w).alloc (Nat.le_refl _) (.cells #[.slice none 0 0, .slice none 0 0, .slice none 0 0] 25)
  go_enter Try.func78, Try.ntmps78
  go_wp2_with fail
  refine wp_region_rk (by kernel_rfl) [none, none, none, none, none, some 0, some 1, some 2, some 3, some 4, some 5, some 6, some 7, some 8, some 9, some 10, some 11, some 12, some 13, some 14, some 15, some 16, some 17, some 18, some 19, some 20, some 21] 22 (by kernel_rfl) (by kernel_rfl) (by kernel_rfl) _ rfl w.heap.size [rkL [0, 1], rkV (.slice (some ⟨bl, off, none⟩) 4 cap), rkV (.pointer (some ⟨bl, off, none⟩)), rkV (.int .i64 a0), rkV (.slice (some ⟨bl, off, none⟩) 4 cap), rkV (.pointer (some ⟨bl, off + 1, none⟩)), rkV (.int .i64 a1), rkL [a0, a1], rkV (.slice (some ⟨bl, off, none⟩) 4 cap), rkV (.pointer (some ⟨bl, off + 2, none⟩)), rkV (.int .i64 a2), rkV (.slice (some ⟨bl, off, none⟩) 4 cap), rkV (.pointer (some ⟨bl, off + 3, none⟩)), rkV (.int .i64 a3), rkL [a2, a3], rkS [7, 14], rkV (.slice aS say.length cs), rkL (say), rkV (.slice aS say.length cs), rkL (say), rkS [17, 19], rkA [0, 15, 20]] _ rfl (by kernel_rfl) (by simp) ?_ ?_
  · intro i o ho hi u g ww hbw hd
    have hall : Below w.heap.size w ww := hA.trans (hbw.mono (by simp))
    have hlow : w.heap.size ≤ ww.heap.size := hall.size
    obtain ⟨hcl, hfr⟩ := bcell hall
    rcases i with _ | _ | _ | _ | _ | _ | _ | _ | _ | _ | _ | _ | _ | _ | _ | _ | _ | _ | _ | _ | _ | _ | _ | i
    all_goals try obtain rfl := Option.some.inj ho
    all_goals try simp only [putAll, fillL]
    · go_wp2
      exact ⟨_, rfl, kept0 ((Below.refl _ _).alloc (Nat.le_refl _) _), own_nums ww w.heap.size [0, 1] _ 2 rfl rfl hlow (by simp)⟩
    · go_wp2
      exact ⟨_, rfl, kept0 (Below.refl _ _), rfl⟩
    · have e1 : u 1 = .slice (some ⟨bl, off, none⟩) 4 cap := hd 1 (by decide)
      rw [e1]
      go_wp2
      exact ⟨_, by simp only [putAll, fillL, e1] <;> rfl, kept0 (Below.refl _ _), rfl⟩
    · have e2 : u 2 = .pointer (some ⟨bl, off, none⟩) := hd 2 (by decide)
      rw [e2]
      go_wp2
      exact ⟨_, by simp only [putAll, fillL, e2] <;> rfl, kept0 (Below.refl _ _), rfl⟩
    · go_wp2
      exact ⟨_, rfl, kept0 (Below.refl _ _), rfl⟩
    · have e4 : u 4 = .slice (some ⟨bl, off, none⟩) 4 cap := hd 4 (by decide)
      rw [e4]
      go_wp2
      exact ⟨_, by simp only [putAll, fillL, e4] <;> rfl, kept0 (Below.refl _ _), rfl⟩
    · have e5 : u 5 = .pointer (some ⟨bl, off + 1, none⟩) := hd 5 (by decide)
      rw [e5]
      go_wp2
      exact ⟨_, by simp only [putAll, fillL, e5] <;> rfl, kept0 (Below.refl _ _), rfl⟩
    · have e3 : u 3 = .int .i64 a0 := hd 3 (by decide)
      rw [e3]
      have e6 : u 6 = .int .i64 a1 := hd 6 (by decide)
      rw [e6]
      go_wp2
      exact ⟨_, by simp only [putAll, fillL, e3, e6] <;> rfl, kept0 ((Below.refl _ _).alloc (Nat.le_refl _) _), own_nums ww w.heap.size [a0, a1] _ 2 rfl rfl hlow (by simp)⟩
    · go_wp2
      exact ⟨_, rfl, kept0 (Below.refl _ _), rfl⟩
    · have e8 : u 8 = .slice (some ⟨bl, off, none⟩) 4 cap := hd 8 (by decide)
      rw [e8]
      go_wp2
      exact ⟨_, by simp only [putAll, fillL, e8] <;> rfl, kept0 (Below.refl _ _), rfl⟩
    · have e9 : u 9 = .pointer (some ⟨bl, off + 2, none⟩) := hd 9 (by decide)
      rw [e9]
      go_wp2
      exact ⟨_, by simp only [putAll, fillL, e9] <;> rfl, kept0 (Below.refl _ _), rfl⟩
    · go_wp2
      exact ⟨_, rfl, kept0 (Below.refl _ _), rfl⟩
    · have e11 : u 11 = .slice (some ⟨bl, off, none⟩) 4 cap := hd 11 (by decide)
      rw [e11]
      go_wp2
      exact ⟨_, by simp only [putAll, fillL, e11] <;> rfl, kept0 (Below.refl _ _), rfl⟩
    · have e12 : u 12 = .pointer (some ⟨bl, off + 3, none⟩) := hd 12 (by decide)
      rw [e12]
      go_wp2
      exact ⟨_, by simp only [putAll, fillL, e12] <;> rfl, kept0 (Below.refl _ _), rfl⟩
    · have e10 : u 10 = .int .i64 a2 := hd 10 (by decide)
      rw [e10]
      have e13 : u 13 = .int .i64 a3 := hd 13 (by decide)
      rw [e13]
      go_wp2
      exact ⟨_, by simp only [putAll, fillL, e10, e13] <;> rfl, kept0 ((Below.refl _ _).alloc (Nat.le_refl _) _), own_nums ww w.heap.size [a2, a3] _ 2 rfl rfl hlow (by simp)⟩
    · have d7 : OwnF ww w.heap.size (InI (g 7)) (u 7) _ := hd 7 (by decide)
      obtain ⟨p7, q7, e7, -⟩ := d7.rd.out
      rw [e7]
      have d14 : OwnF ww w.heap.size (InI (g 14)) (u 14) _ := hd 14 (by decide)
      obtain ⟨p14, q14, e14, -⟩ := d14.rd.out
      rw [e14]
      go_wp2
      exact ⟨_, by simp only [putAll, fillL, e7, e14] <;> rfl, kept0 ((Below.refl _ _).alloc (Nat.le_refl _) _), own_rowsI ww w.heap.size _ [u 7, u 14] 2 (by rw [e7, e14]; rfl) rfl hlow (by simp)⟩
    · go_wp2
      exact ⟨_, rfl, kept0 (Below.refl _ _), rfl⟩
    · have e16 : u 16 = .slice aS say.length cs := hd 16 (by decide)
      rw [e16]
      go_wp2_with fail
      refine (c_l1Own _ say _ (hs.below (hA.trans (hbw.mono (by simp)))) hs0 (by omega)).mono ?_
      rintro e wn ⟨vn, rfl, hvn, hbn⟩
      go_wp2
      exact ⟨_, by simp only [putAll, fillL, e16] <;> rfl, kept0 hbn, ⟨hvn.mono hlow, hvn.le, OwnS.lt hvn⟩⟩
    · go_wp2
      exact ⟨_, rfl, kept0 (Below.refl _ _), rfl⟩
    · have e18 : u 18 = .slice aS say.length cs := hd 18 (by decide)
      rw [e18]
      go_wp2_with fail
      refine (c_l1Own _ say _ (hs.below (hA.trans (hbw.mono (by simp)))) hs0 (by omega)).mono ?_
      rintro e wn ⟨vn, rfl, hvn, hbn⟩
      go_wp2
      exact ⟨_, by simp only [putAll, fillL, e18] <;> rfl, kept0 hbn, ⟨hvn.mono hlow, hvn.le, OwnS.lt hvn⟩⟩
    · have d17 : OwnF ww w.heap.size (InI (g 17)) (u 17) _ := hd 17 (by decide)
      obtain ⟨p17, q17, e17, -⟩ := d17.rd.out
      rw [e17]
      have d19 : OwnF ww w.heap.size (InI (g 19)) (u 19) _ := hd 19 (by decide)
      obtain ⟨p19, q19, e19, -⟩ := d19.rd.out
      rw [e19]
      go_wp2
      exact ⟨_, by simp only [putAll, fillL, e17, e19] <;> rfl, kept0 ((Below.refl _ _).alloc (Nat.le_refl _) _), own_rowsI ww w.heap.size _ [u 17, u 19] 2 (by rw [e17, e19]; rfl) rfl hlow (by simp)⟩
    · have d0 : OwnF ww w.heap.size (InI (g 0)) (u 0) _ := hd 0 (by decide)
      obtain ⟨p0, q0, e0, -⟩ := d0.rd.out
      rw [e0]
      have d15 := (hd 15 (by decide) : OwnS ww w.heap.size _ (u 15) _ ∧ _).1
      obtain ⟨p15, q15, e15, -⟩ := d15.sl
      rw [e15]
      have d20 := (hd 20 (by decide) : OwnS ww w.heap.size _ (u 20) _ ∧ _).1
      obtain ⟨p20, q20, e20, -⟩ := d20.sl
      rw [e20]
      go_wp2
      exact ⟨_, by simp only [putAll, fillL, e0, e15, e20] <;> rfl, kept0 (Below.refl _ _), by simp [rkH, rkA, e0, e15, e20]⟩
    · exact absurd rfl hi
    · simp at ho
  · intro u g w2 hbw hR hAp
    have r0 : OwnF w2 w.heap.size (InI (g 0)) (u 0) [0, 1] := hR 0 (by decide) (by decide)
    have r1 : OwnF w2 w.heap.size (InI (g 7)) (u 7) [a0, a1] := hR 7 (by decide) (by decide)
    have r2 : OwnF w2 w.heap.size (InI (g 14)) (u 14) [a2, a3] := hR 14 (by decide) (by decide)
    have r3 : OwnF w2 w.heap.size (InI (g 17)) (u 17) say := hR 17 (by decide) (by decide)
    have r4 : OwnF w2 w.heap.size (InI (g 19)) (u 19) say := hR 19 (by decide) (by decide)
    have rA : OwnS w2 w.heap.size 22 (u 15) [u 7, u 14] ∧ _ := hR 15 (by decide) (by decide)
    have rS : OwnS w2 w.heap.size 22 (u 20) [u 17, u 19] ∧ _ := hR 20 (by decide) (by decide)
    have rB : u 21 = .agg #[u 0, u 15, u 20] := hR 21 (by decide) (by decide)
    have hj : ∀ j ∈ [0, 15, 7, 14, 20, 17, 19], j < 23 ∧ j ≠ 22 := by decide
    have hu := ownU_made (F := fun k => w.heap.size + 1 ≤ k ∧ k < w2.heap.size) (g 0) (g 15) (g 20) (g 7) (g 14) (g 17) (g 19) r0 rA rS r1 r2 r3 r4 (hAp.pair [0, 15, 7, 14, 20, 17, 19] (by decide) (by decide))
      (fun x hx k hk => by have := hAp.inAll [0, 15, 7, 14, 20, 17, 19] (by decide) x hx k hk; simpa using this) hs1
    have hz := hbw.size
    have p0 : w2.heap[w.heap.size]? = some (.cells #[.slice none 0 0, .slice none 0 0, .slice none 0 0] 25 (0, 0)) := blk_later hbw (heap_alloc_at (by simp))
    obtain ⟨⟨k0, k1, k2⟩, f0, f1, f2⟩ := blk3 p0
    obtain ⟨b0, c0, e0, -⟩ := r0.rd.out
    obtain ⟨b1, c1, e1, -⟩ := rA.1.sl
    obtain ⟨b2, c2, e2, -⟩ := rS.1.sl
    rw [e0, e1, e2] at rB hu
    obtain ⟨⟨q0, q1, q2⟩, hk⟩ := stored3 p0 (Value.slice b0 2 c0) (Value.slice b1 2 c1) (Value.slice b2 2 c2)
    have hB := hA.trans (hbw.mono (by simp; skip))
    simp only [World.size_alloc] at hz
    replace hz := Lib.hid hz
    clear hA r0 r1 r2 r3 r4 rA rS hR hAp
    simp only [putAll, fillL]
    replace rB : u 21 = .agg #[.slice b0 2 c0, .slice b1 2 c1, .slice b2 2 c2] := rB
    rw [rB]
    clear rB e0 e1 e2
    replace hu := Lib.hid hu
    replace q0 := Lib.hid q0
    replace q1 := Lib.hid q1
    replace q2 := Lib.hid q2
    go_wp2
    refine bodyPost_ret (v := .agg #[.slice b0 2 c0, .slice b1 2 c1, .slice b2 2 c2]) (by simp [results, Try.results78, go_sem, q0.out, q1.out, q2.out]) rfl ⟨_, rfl, ?_, hB.trans (hk.below (fun k h => by omega) (by have := hz.out; omega))⟩
    have hz2 := hk.size
    exact (hu.out.off hk (fun k h1 h2 => by have := h1.1; omega)).mono (Nat.le_refl _) (fun k h => ⟨by have := h.1; omega, by have := h.2; omega⟩)

set_option maxHeartbeats 4000000 in
theorem c_ruleOf (v : Value) (a0 a1 a2 a3 s0 s1 s2 s3 : Int) (w : World) (h : Ints w v [a0, a1, a2, a3]) :
    Calls Try.prog 68 #[v, .agg #[.int .i64 s0, .int .i64 s1, .int .i64 s2, .int .i64 s3]] w fun e w' => ∃ v', e = .returned v' ∧ OwnU w' w.heap.size (fun k => w.heap.size ≤ k ∧ k < w'.heap.size) v' (madeU a0 a1 a2 a3 [s0, s1, s2, s3]) ∧ Below w.heap.size w w' := by
  obtain ⟨say, hsay⟩ : ∃ say, say = [s0, s1, s2, s3] := ⟨_, rfl⟩
  rw [← hsay]
  have hs1 : say.length ≤ 1000000 := by rw [hsay]; simp
  have hs0 : 0 < say.length := by rw [hsay]; simp
  obtain ⟨ad, cap, rfl, hl, -⟩ := h.out
  obtain ⟨bl, off, rfl, hb0, hc0⟩ := h.at 0 (by simp)
  have h1 : Ints w (.slice (some ⟨bl, off, none⟩) 2 cap) [a0, a1] := sub_ints h (i := 0) (n := 2) (by simp)
  have h2 : Ints w (.slice (some ⟨bl, off + 2, none⟩) 2 (cap - 2)) [a2, a3] := sub_ints h (i := 2) (n := 2) (by simp)
  have hcap : 4 ≤ cap ∧ cap ≤ 9223372036854775807 := by obtain ⟨_, _, e, hl', -⟩ := h; cases e; simpa using hl'
  obtain ⟨hcap1, hcap2⟩ := hcap
  have hA := ((Below.refl w.heap.size w).alloc (Nat.le_refl _) (.cells #[.int .i64 s0, .int .i64 s1, .int .i64 s2, .int .i64 s3] 69)).alloc (by simp) (.cells #[.slice none 0 0, .slice none 0 0, .slice none 0 0] 25)
  have h3 : Ints (w.alloc (.cells #[.int .i64 s0, .int .i64 s1, .int .i64 s2, .int .i64 s3] 69)) (.slice (some ⟨w.heap.size, 0, none⟩) 4 4) say := by
    rw [hsay]; exact blk_ints (xs := [s0, s1, s2, s3]) (heap_alloc_at rfl) rfl (by simp)
  replace hsay := Lib.hid hsay
  have hA2 := (Below.refl _ (w.alloc (.cells #[.int .i64 s0, .int .i64 s1, .int .i64 s2, .int .i64 s3] 69))).alloc (Nat.le_refl _) (.cells #[.slice none 0 0, .slice none 0 0, .slice none 0 0] 25)
  clear h hc0
  go_enter Try.func68, Try.ntmps68
  go_wp2_with fail
  refine wp_region_rk (by kernel_rfl) [none, none, none, none, none, some 0, some 1, some 2, some 3, some 4, some 5, some 6, some 7, some 8, some 9, some 10, some 11, some 12, some 13] 14 (by kernel_rfl) (by kernel_rfl) (by kernel_rfl) _ rfl w.heap.size [rkL [0, 1], rkV (.slice (some ⟨bl, off, none⟩) 4 cap), rkV (.slice (some ⟨bl, off, none⟩) 2 cap), rkL ([a0, a1]), rkV (.slice (some ⟨bl, off, none⟩) 4 cap), rkV (.slice (some ⟨bl, off + 2, none⟩) 2 (cap - 2)), rkL ([a2, a3]), rkS [3, 6], rkV (.slice (some ⟨w.heap.size, 0, none⟩) 4 4), rkL (say), rkV (.slice (some ⟨w.heap.size, 0, none⟩) 4 4), rkL (say), rkS [9, 11], rkA [0, 7, 12]] _ rfl (by kernel_rfl) (by simp) ?_ ?_
  · intro i o ho hi u g ww hbw hd
    have hall : Below w.heap.size w ww := hA.trans (hbw.mono (by simp; omega))
    have hlow : w.heap.size ≤ ww.heap.size := hall.size
    obtain ⟨hcl, hfr⟩ := bcell hall
    rcases i with _ | _ | _ | _ | _ | _ | _ | _ | _ | _ | _ | _ | _ | _ | _ | i
    all_goals try obtain rfl := Option.some.inj ho
    all_goals try simp only [putAll, fillL]
    · go_wp2
      exact ⟨_, rfl, kept0 ((Below.refl _ _).alloc (Nat.le_refl _) _), own_nums ww w.heap.size [0, 1] _ 2 rfl rfl hlow (by simp)⟩
    · go_wp2
      exact ⟨_, rfl, kept0 (Below.refl _ _), rfl⟩
    · have e1 : u 1 = .slice (some ⟨bl, off, none⟩) 4 cap := hd 1 (by decide)
      rw [e1]
      go_wp2
      exact ⟨_, by simp only [putAll, fillL, e1] <;> rfl, kept0 (Below.refl _ _), rfl⟩
    · have e2 : u 2 = .slice (some ⟨bl, off, none⟩) 2 cap := hd 2 (by decide)
      rw [e2]
      go_wp2_with fail
      refine (c_copied _ [a0, a1] _ (h1.below hall) (by simp) (by simp)).mono ?_
      rintro e wn ⟨vn, rfl, hvn, hbn⟩
      go_wp2
      exact ⟨_, by simp only [putAll, fillL, e2] <;> rfl, kept0 hbn, ⟨hvn.mono hlow, hvn.le, OwnS.lt hvn⟩⟩
    · go_wp2
      exact ⟨_, rfl, kept0 (Below.refl _ _), rfl⟩
    · have e4 : u 4 = .slice (some ⟨bl, off, none⟩) 4 cap := hd 4 (by decide)
      rw [e4]
      go_wp2
      exact ⟨_, by simp only [putAll, fillL, e4] <;> rfl, kept0 (Below.refl _ _), rfl⟩
    · have e5 : u 5 = .slice (some ⟨bl, off + 2, none⟩) 2 (cap - 2) := hd 5 (by decide)
      rw [e5]
      go_wp2_with fail
      refine (c_copied _ [a2, a3] _ (h2.below hall) (by simp) (by simp)).mono ?_
      rintro e wn ⟨vn, rfl, hvn, hbn⟩
      go_wp2
      exact ⟨_, by simp only [putAll, fillL, e5] <;> rfl, kept0 hbn, ⟨hvn.mono hlow, hvn.le, OwnS.lt hvn⟩⟩
    · have d3 : OwnF ww w.heap.size (InI (g 3)) (u 3) _ := hd 3 (by decide)
      obtain ⟨p3, q3, e3, -⟩ := d3.rd.out
      rw [e3]
      have d6 : OwnF ww w.heap.size (InI (g 6)) (u 6) _ := hd 6 (by decide)
      obtain ⟨p6, q6, e6, -⟩ := d6.rd.out
      rw [e6]
      go_wp2
      exact ⟨_, by simp only [putAll, fillL, e3, e6] <;> rfl, kept0 ((Below.refl _ _).alloc (Nat.le_refl _) _), own_rowsI ww w.heap.size _ [u 3, u 6] 2 (by rw [e3, e6]; rfl) rfl hlow (by simp)⟩
    · go_wp2
      exact ⟨_, rfl, kept0 (Below.refl _ _), rfl⟩
    · have e8 : u 8 = .slice (some ⟨w.heap.size, 0, none⟩) 4 4 := hd 8 (by decide)
      rw [e8]
      go_wp2_with fail
      refine (c_copied _ say _ (h3.below (hA2.trans (hbw.mono (by simp)))) hs0 (by omega)).mono ?_
      rintro e wn ⟨vn, rfl, hvn, hbn⟩
      go_wp2
      exact ⟨_, by simp only [putAll, fillL, e8] <;> rfl, kept0 hbn, ⟨hvn.mono hlow, hvn.le, OwnS.lt hvn⟩⟩
    · go_wp2
      exact ⟨_, rfl, kept0 (Below.refl _ _), rfl⟩
    · have e10 : u 10 = .slice (some ⟨w.heap.size, 0, none⟩) 4 4 := hd 10 (by decide)
      rw [e10]
      go_wp2_with fail
      refine (c_copied _ say _ (h3.below (hA2.trans (hbw.mono (by simp)))) hs0 (by omega)).mono ?_
      rintro e wn ⟨vn, rfl, hvn, hbn⟩
      go_wp2
      exact ⟨_, by simp only [putAll, fillL, e10] <;> rfl, kept0 hbn, ⟨hvn.mono hlow, hvn.le, OwnS.lt hvn⟩⟩
    · have d9 : OwnF ww w.heap.size (InI (g 9)) (u 9) _ := hd 9 (by decide)
      obtain ⟨p9, q9, e9, -⟩ := d9.rd.out
      rw [e9]
      have d11 : OwnF ww w.heap.size (InI (g 11)) (u 11) _ := hd 11 (by decide)
      obtain ⟨p11, q11, e11, -⟩ := d11.rd.out
      rw [e11]
      go_wp2
      exact ⟨_, by simp only [putAll, fillL, e9, e11] <;> rfl, kept0 ((Below.refl _ _).alloc (Nat.le_refl _) _), own_rowsI ww w.heap.size _ [u 9, u 11] 2 (by rw [e9, e11]; rfl) rfl hlow (by simp)⟩
    · have d0 : OwnF ww w.heap.size (InI (g 0)) (u 0) _ := hd 0 (by decide)
      obtain ⟨p0, q0, e0, -⟩ := d0.rd.out
      rw [e0]
      have d7 := (hd 7 (by decide) : OwnS ww w.heap.size _ (u 7) _ ∧ _).1
      obtain ⟨p7, q7, e7, -⟩ := d7.sl
      rw [e7]
      have d12 := (hd 12 (by decide) : OwnS ww w.heap.size _ (u 12) _ ∧ _).1
      obtain ⟨p12, q12, e12, -⟩ := d12.sl
      rw [e12]
      go_wp2
      exact ⟨_, by simp only [putAll, fillL, e0, e7, e12] <;> rfl, kept0 (Below.refl _ _), by simp [rkH, rkA, e0, e7, e12]⟩
    · exact absurd rfl hi
    · simp at ho
  · intro u g w2 hbw hR hAp
    have r0 : OwnF w2 w.heap.size (InI (g 0)) (u 0) [0, 1] := hR 0 (by decide) (by decide)
    have r1 : OwnF w2 w.heap.size (InI (g 3)) (u 3) [a0, a1] := hR 3 (by decide) (by decide)
    have r2 : OwnF w2 w.heap.size (InI (g 6)) (u 6) [a2, a3] := hR 6 (by decide) (by decide)
    have r3 : OwnF w2 w.heap.size (InI (g 9)) (u 9) say := hR 9 (by decide) (by decide)
    have r4 : OwnF w2 w.heap.size (InI (g 11)) (u 11) say := hR 11 (by decide) (by decide)
    have rA : OwnS w2 w.heap.size 22 (u 7) [u 3, u 6] ∧ _ := hR 7 (by decide) (by decide)
    have rS : OwnS w2 w.heap.size 22 (u 12) [u 9, u 11] ∧ _ := hR 12 (by decide) (by decide)
    have rB : u 13 = .agg #[u 0, u 7, u 12] := hR 13 (by decide) (by decide)
    have hj : ∀ j ∈ [0, 7, 3, 6, 12, 9, 11], j < 15 ∧ j ≠ 14 := by decide
    have hu := ownU_made (F := fun k => w.heap.size + 1 + 1 ≤ k ∧ k < w2.heap.size) (g 0) (g 7) (g 12) (g 3) (g 6) (g 9) (g 11) r0 rA rS r1 r2 r3 r4 (hAp.pair [0, 7, 3, 6, 12, 9, 11] (by decide) (by decide))
      (fun x hx k hk => by have := hAp.inAll [0, 7, 3, 6, 12, 9, 11] (by decide) x hx k hk; simpa using this) hs1
    have hz := hbw.size
    have p0 : w2.heap[w.heap.size + 1]? = some (.cells #[.slice none 0 0, .slice none 0 0, .slice none 0 0] 25 (0, 0)) := blk_later hbw (heap_alloc_at (by simp))
    obtain ⟨⟨k0, k1, k2⟩, f0, f1, f2⟩ := blk3 p0
    obtain ⟨b0, c0, e0, -⟩ := r0.rd.out
    obtain ⟨b1, c1, e1, -⟩ := rA.1.sl
    obtain ⟨b2, c2, e2, -⟩ := rS.1.sl
    rw [e0, e1, e2] at rB hu
    obtain ⟨⟨q0, q1, q2⟩, hk⟩ := stored3 p0 (Value.slice b0 2 c0) (Value.slice b1 2 c1) (Value.slice b2 2 c2)
    have hB := hA.trans (hbw.mono (by simp; omega))
    simp only [World.size_alloc] at hz
    replace hz := Lib.hid hz
    clear hA r0 r1 r2 r3 r4 rA rS hR hAp
    simp only [putAll, fillL]
    replace rB : u 13 = .agg #[.slice b0 2 c0, .slice b1 2 c1, .slice b2 2 c2] := rB
    rw [rB]
    clear rB e0 e1 e2
    replace hu := Lib.hid hu
    replace q0 := Lib.hid q0
    replace q1 := Lib.hid q1
    replace q2 := Lib.hid q2
    go_wp2
    refine bodyPost_ret (v := .agg #[.slice b0 2 c0, .slice b1 2 c1, .slice b2 2 c2]) (by simp [results, Try.results68, go_sem, q0.out, q1.out, q2.out]) rfl ⟨_, rfl, ?_, hB.trans (hk.below (fun k h => by omega) (by have := hz.out; omega))⟩
    have hz2 := hk.size
    exact (hu.out.off hk (fun k h1 h2 => by have := h1.1; omega)).mono (Nat.le_refl _) (fun k h => ⟨by have := h.1; omega, by have := h.2; omega⟩)

end Go.Proofs.Ytikfddppjalfdaa
