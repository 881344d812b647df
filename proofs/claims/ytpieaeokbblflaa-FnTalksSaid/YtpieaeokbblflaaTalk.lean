/- Talks in memory, and the contracts of the laws' helpers on them; conditions: none. -/
import Derived.Test.YtpieaeokbblflaaPairsC
namespace Go.Proofs.Ytpieaeokbblflaa
open Go.RowKit

structure TalkD where
  p : List Int
  s : List (List Int)
  x : List (Int × Int)

/-- the value reads as that -/
def TalkR (w : World) (v : Value) (r : TalkD) : Prop := ∃ v0 v1 v2, v = .agg #[v0, v1, v2] ∧ Ints w v0 r.p ∧ Rows2 w v1 r.s ∧ Pairs w v2 r.x
theorem TalkR.below {w w' : World} {v : Value} {r : TalkD} (h : TalkR w v r) (hb : Below w.heap.size w w') : TalkR w' v r := by
  obtain ⟨v0, v1, v2, e, h0, h1, h2⟩ := h
  exact ⟨v0, v1, v2, e, h0.below hb, h1.below hb, h2.below hb⟩
theorem TalkR.form {w : World} {v : Value} {r : TalkD} (h : TalkR w v r) : ∃ a0 k0 a1 k1 a2 k2, v = .agg #[.slice a0 r.p.length k0, .slice a1 r.s.length k1, .slice a2 r.x.length k2] := by
  obtain ⟨v0, v1, v2, rfl, h0, h1, h2⟩ := h
  obtain ⟨a0, k0, rfl, -⟩ := h0.out
  obtain ⟨a1, k1, rfl, -⟩ := h1.out
  obtain ⟨a2, k2, rfl, -⟩ := h2.out
  exact ⟨_, _, _, _, _, _, rfl⟩
/-- .. in blocks of the call's own, no two parts in one block -/
def OwnT (w : World) (B : Nat) (F : Nat → Prop) (v : Value) (r : TalkD) : Prop :=
  ∃ v0 v1 v2, v = .agg #[v0, v1, v2] ∧ ∃ F0 F1 F2 : Nat → Prop, OwnF w B F0 v0 r.p ∧ OwnQ w B F1 v1 r.s ∧ OwnP w B F2 v2 r.x ∧ (∀ k, F0 k → F k) ∧ (∀ k, F1 k → F k) ∧ (∀ k, F2 k → F k) ∧ (∀ k, F0 k → ¬ F1 k) ∧ (∀ k, F0 k → ¬ F2 k) ∧ (∀ k, F1 k → ¬ F2 k)
theorem OwnT.rd {w : World} {B : Nat} {F : Nat → Prop} {v : Value} {r : TalkD} (h : OwnT w B F v r) : TalkR w v r := by
  obtain ⟨v0, v1, v2, e, F0, F1, F2, h0, h1, h2, -⟩ := h
  exact ⟨v0, v1, v2, e, h0.rd, h1.rd, h2.rd⟩
theorem OwnT.below {w' : World} {w : World} {B : Nat} {F : Nat → Prop} {v : Value} {r : TalkD} (h : OwnT w B F v r) (hb : Below w.heap.size w w') : OwnT w' B F v r := by
  obtain ⟨v0, v1, v2, e, F0, F1, F2, h0, h1, h2, hh⟩ := h
  exact ⟨v0, v1, v2, e, F0, F1, F2, h0.below hb, h1.below hb, h2.below hb, hh⟩
theorem OwnT.mono {B' : Nat} {w : World} {B : Nat} {F : Nat → Prop} {v : Value} {r : TalkD} (h : OwnT w B F v r) (hB : B' ≤ B) {G : Nat → Prop} (hG : ∀ k, F k → G k) : OwnT w B' G v r := by
  obtain ⟨v0, v1, v2, e, F0, F1, F2, h0, h1, h2, i0, i1, i2, hh⟩ := h
  exact ⟨v0, v1, v2, e, F0, F1, F2, h0.mono hB, h1.mono hB, h2.mono hB, fun k hk => hG k (i0 k hk), fun k hk => hG k (i1 k hk), fun k hk => hG k (i2 k hk), hh⟩
theorem OwnT.off {w' : World} {G : Nat → Prop} {w : World} {B : Nat} {F : Nat → Prop} {v : Value} {r : TalkD} (h : OwnT w B F v r) (hk : KeptOff G w w') (hd : ∀ k, F k → ¬ G k) : OwnT w' B F v r := by
  obtain ⟨v0, v1, v2, e, F0, F1, F2, h0, h1, h2, i0, i1, i2, hh⟩ := h
  exact ⟨v0, v1, v2, e, F0, F1, F2, h0.off hk fun k hk => hd k (i0 k hk), h1.off hk fun k hk => hd k (i1 k hk), h2.off hk fun k hk => hd k (i2 k hk), i0, i1, i2, hh⟩
def totT (r : TalkD) : Nat := r.p.length + totR r.s + 2 * r.x.length
theorem OwnT.tot {w : World} {B : Nat} {F : Nat → Prop} {v : Value} {r : TalkD} (h : OwnT w B F v r) : r.p.length ≤ 1099511627776 ∧ r.s.length + totR r.s ≤ 1099511627776 ∧ r.x.length ≤ 1099511627776 := by
  obtain ⟨v0, v1, v2, e, F0, F1, F2, h0, h1, h2, -⟩ := h
  exact ⟨h0.tot, h1.tot, h2.tot⟩
theorem totT_le {r : TalkD} (h : r.p.length ≤ 1099511627776 ∧ r.s.length + totR r.s ≤ 1099511627776 ∧ r.x.length ≤ 1099511627776) : totT r ≤ 4398046511104 := by unfold totT; omega

set_option maxHeartbeats 1000000 in
theorem c_eqT_same (v u : Value) (r : TalkD) (w : World) (h : TalkR w v r) (g : TalkR w u r) :
    Calls Try.prog 25 #[v, u] w fun e w' => e = .returned (.bool true) ∧ Below w.heap.size w w' := by
  obtain ⟨v0, v1, v2, rfl, h0, h1, h2⟩ := h
  obtain ⟨u0, u1, u2, rfl, g0, g1, g2⟩ := g
  have hA := ((Below.refl w.heap.size w).alloc (Nat.le_refl _) (.cells #[v0, v1, v2] 38)).alloc (by simp) (.cells #[u0, u1, u2] 38)
  go_enter Try.func25, Try.ntmps25
  go_wp2_with fail
  refine (c_eqF_same _ _ _ _ (h0.below hA) (g0.below hA)).mono ?_
  rintro e w1 ⟨rfl, hb1⟩
  have p0 : w1.heap[w.heap.size]? = some (.cells #[v0, v1, v2] 38 (0, 0)) := blk_later hb1 (by rw [heap_alloc_old _ _ (by simp), heap_alloc_at rfl])
  have p1 : w1.heap[w.heap.size + 1]? = some (.cells #[u0, u1, u2] 38 (0, 0)) := blk_later hb1 (by rw [heap_alloc_at (by simp)])
  have hB1 := hA.trans (hb1.mono (by simp; omega))
  obtain ⟨⟨-, x0_1, x0_2⟩, -⟩ := blk3 p0
  obtain ⟨⟨-, y0_1, y0_2⟩, -⟩ := blk3 p1
  go_wp2_with fail
  refine (c_eqR_same _ _ _ _ (h1.below hB1) (g1.below hB1)).mono ?_
  rintro e w2 ⟨rfl, hb2⟩
  replace p0 := blk_later hb2 p0
  replace p1 := blk_later hb2 p1
  have hB2 := bstep hB1 hb2
  obtain ⟨⟨-, -, x1_2⟩, -⟩ := blk3 p0
  obtain ⟨⟨-, -, y1_2⟩, -⟩ := blk3 p1
  go_wp2_with fail
  refine (c_eqP_same _ _ _ _ (h2.below hB2) (g2.below hB2)).mono ?_
  rintro e w3 ⟨rfl, hb3⟩
  replace p0 := blk_later hb3 p0
  replace p1 := blk_later hb3 p1
  have hB3 := bstep hB2 hb3
  go_wp2
  go_ret
  exact ⟨rfl, hB3⟩

def marksT (k : Int) (r : TalkD) : TalkD := ⟨marks (k) r.p.length, marksR (k + (r.p.length : Int)) r.s, marksP (k + (r.p.length : Int) + (totR r.s : Int)) r.x.length⟩
set_option maxHeartbeats 1000000 in
theorem c_markT (v : Value) (r : TalkD) (k : Int) (B : Nat) (F : Nat → Prop) (w : World) (h : OwnT w B F v r) (hk : 0 ≤ k ∧ k ≤ 35184372088832)
    (ht : r.p.length ≤ 1099511627776 ∧ r.s.length + totR r.s ≤ 1099511627776 ∧ r.x.length ≤ 1099511627776) (hF : ∀ k, F k → k < w.heap.size) :
    Calls Try.prog 26 #[v, .int .i64 k] w fun e w' => e = .returned (.int .i64 (k + totT r)) ∧ OwnT w' B F v (marksT k r) ∧ KeptOff F w w' := by
  obtain ⟨v0, v1, v2, rfl, F0, F1, F2, h0, h1, h2, i0, i1, i2, d01, d02, d12⟩ := h
  have hT : Hid (k + (totT r : Int) = k + (r.p.length : Int) + (totR r.s : Int) + (2 * r.x.length : Int)) := Lib.hid (by unfold totT; omega)
  obtain ⟨t0, t1, t2⟩ := ht
  have hA := (Below.refl w.heap.size w).alloc (Nat.le_refl _) (.cells #[v0, v1, v2] 38)
  have hA' : KeptOff F w (w.alloc (.cells #[v0, v1, v2] 38)) := ⟨rfl, rfl, rfl, by simp, fun q hq _ => heap_alloc_old w _ hq⟩
  replace h0 := h0.below hA
  replace h1 := h1.below hA
  replace h2 := h2.below hA
  clear hA
  go_enter Try.func26, Try.ntmps26
  go_wp2_with fail
  refine (c_markF _ _ _ B F0 _ h0 (by omega) t0).mono ?_
  rintro e w1 ⟨rfl, hm0, hk1⟩
  have z1 := hk1.size
  simp only [World.size_alloc] at z1
  have p0 : w1.heap[w.heap.size]? = some (.cells #[v0, v1, v2] 38 (0, 0)) := (hk1.block _ (by simp) fun hf => Nat.lt_irrefl _ (hF _ (i0 _ hf))).trans (by rw [heap_alloc_at rfl])
  replace h1 := h1.off hk1 fun q a b => d01 q b a
  replace h2 := h2.off hk1 fun q a b => d02 q b a
  obtain ⟨⟨-, x0_1, x0_2⟩, -⟩ := blk3 p0
  go_wp2_with fail
  refine (c_markR _ _ _ B F1 _ h1 (by omega) t1).mono ?_
  rintro e w2 ⟨rfl, hm1, hk2⟩
  have z2 := hk2.size
  replace p0 := (hk2.block _ (by omega) fun hf => Nat.lt_irrefl _ (hF _ (i1 _ hf))).trans p0
  replace hm0 := hm0.off hk2 d01
  replace h2 := h2.off hk2 fun q a b => d12 q b a
  clear x0_1 x0_2
  obtain ⟨⟨-, -, x1_2⟩, -⟩ := blk3 p0
  go_wp2_with fail
  refine (c_markP _ _ _ B F2 _ h2 (by omega) t2).mono ?_
  rintro e w3 ⟨rfl, hm2, hk3⟩
  have z3 := hk3.size
  replace p0 := (hk3.block _ (by omega) fun hf => Nat.lt_irrefl _ (hF _ (i2 _ hf))).trans p0
  replace hm0 := hm0.off hk3 d02
  replace hm1 := hm1.off hk3 d12
  clear x1_2
  go_wp2
  go_ret
  exact ⟨by rw [hT.out]; rfl, ⟨v0, v1, v2, rfl, F0, F1, F2, hm0, hm1, hm2, i0, i1, i2, d01, d02, d12⟩, (((hA'.trans (hk1.mono i0)).trans (hk2.mono i1)).trans (hk3.mono i2))⟩

set_option maxHeartbeats 1000000 in
theorem c_heldT (v : Value) (r : TalkD) (k : Int) (w : World) (h : TalkR w v (marksT k r)) (hk : 0 ≤ k ∧ k ≤ 35184372088832)
    (ht : r.p.length ≤ 1099511627776 ∧ r.s.length + totR r.s ≤ 1099511627776 ∧ r.x.length ≤ 1099511627776) :
    Calls Try.prog 27 #[v, .int .i64 k] w fun e w' => e = .returned (.int .i64 (k + totT r)) ∧ Below w.heap.size w w' := by
  obtain ⟨v0, v1, v2, rfl, h0, h1, h2⟩ := h
  have hT : Hid (k + (totT r : Int) = k + (r.p.length : Int) + (totR r.s : Int) + (2 * r.x.length : Int)) := Lib.hid (by unfold totT; omega)
  obtain ⟨t0, t1, t2⟩ := ht
  have hA := (Below.refl w.heap.size w).alloc (Nat.le_refl _) (.cells #[v0, v1, v2] 38)
  have g0 := h0.below hA
  have g1 := h1.below hA
  have g2 := h2.below hA
  go_enter Try.func27, Try.ntmps27
  go_wp2_with fail
  refine (c_heldF _ _ _ _ g0 (by omega) t0).mono ?_
  rintro e _ ⟨rfl, rfl⟩
  go_wp2_with fail
  refine (c_heldR _ _ _ _ g1 (by omega) t1).mono ?_
  rintro e _ ⟨rfl, rfl⟩
  go_wp2_with fail
  refine (c_heldP _ _ _ _ g2 (by omega) t2).mono ?_
  rintro e _ ⟨rfl, rfl⟩
  go_wp2
  go_ret
  exact ⟨by rw [hT.out]; rfl, hA⟩


end Go.Proofs.Ytpieaeokbblflaa
