/- What the law on talks says, reckoned: no talk that solves a task has fewer bits than it needs; conditions: none. -/
import Derived.Test.YtpieaeokbblflaaT1
import Derived.Test.YtpieaeokbblflaaRunT
import Derived.Test.YtpieaeokbblflaaSolves
import Derived.Test.YtpieaeokbblflaaFstM
import Derived.Test.YtpieaeokbblflaaBuildT
namespace Go.Proofs.Ytpieaeokbblflaa
open Go.RowKit

theorem plain_const {t : List (List Int)} {R C : Nat} {x : Int} (h : ∀ i j, i < t.length → j < wid t → R.testBit i = true → C.testBit j = true → ent t i j = x) : plB t R C = true := by
  rw [plB_iff]
  rintro ⟨⟨i, j, a, b, c, d, e⟩, i2, j2, a2, b2, c2, d2, e2⟩
  rw [h i j a b c d] at e
  rw [h i2 j2 a2 b2 c2 d2] at e2
  omega
/-- from a step on: the rectangle of all that reach it is told by what is still said -/
theorem talk_low {t : List (List Int)} {r : TalkD} (ht : taskB t = true) (hv : validB r t.length (wid t) = true) : ∀ (f : Nat) (k : Int) (R C d : Nat), R < 2 ^ t.length → C < 2 ^ wid t → -2 ≤ k → k < r.p.length →
    (∀ i j, i < t.length → j < wid t → R.testBit i = true → C.testBit j = true → -1 - (runF r i j f k).2 = ent t i j ∧ (runF r i j f k).1.length ≤ d) → need t R C ≤ d := by
  obtain ⟨hn, hm, -, -⟩ := taskB_yes ht
  obtain ⟨-, -, -, hst⟩ := valid_step hv
  intro f
  induction f with
  | zero =>
    intro k R C d hR hC hk0 hk1 h
    rw [need_plain (plain_const (x := -1 - k) fun i j a b c e => by have := (h i j a b c e).1; simpa [runF] using this.symm)]
    omega
  | succ f ih =>
    intro k R C d hR hC hk0 hk1 h
    by_cases hneg : k < 0
    · rw [need_plain (plain_const (x := -1 - k) fun i j a b c e => by have := (h i j a b c e).1; rw [runF_neg _ _ _ _ _ hneg] at this; exact this.symm)]
      omega
    · obtain ⟨q, rfl⟩ := Int.eq_ofNat_of_zero_le (show 0 ≤ k by omega)
      have hq : q < r.p.length := by omega
      obtain ⟨hsp, -, h01, hnx⟩ := hst q hq
      cases hpl : plB t R C
      · have hp' : ¬ plB t R C = true := by rw [hpl]; simp
        rw [plB_iff] at hp'
        obtain ⟨⟨i1, j1, a1, b1, c1, d1, -⟩, -⟩ := Classical.not_not.1 hp'
        have hd := (h i1 j1 a1 b1 c1 d1).2
        rw [runF_pos] at hd
        simp only [List.length_cons] at hd
        obtain ⟨d', rfl⟩ : ∃ d', d = d' + 1 := ⟨d - 1, by omega⟩
        have hb : ∀ i j, (bitR r i j q).toNat = 0 ∨ (bitR r i j q).toNat = 1 := fun i j => by
          unfold bitR
          by_cases hl : (if spk r q = 0 then i else j) < (rowR r q).length
          · have := h01 _ (List.getElem_mem hl)
            rw [show (rowR r q).getD (if spk r q = 0 then i else j) 0 = (rowR r q)[if spk r q = 0 then i else j] by simp [List.getD, hl]]
            omega
          · rw [show (rowR r q).getD (if spk r q = 0 then i else j) 0 = 0 by simp [List.getD, Nat.le_of_not_lt hl]]
            simp
        have step : ∀ (b R2 C2 : Nat), b < 2 → R2 < 2 ^ t.length → C2 < 2 ^ wid t → (∀ i j, i < t.length → j < wid t → R2.testBit i = true → C2.testBit j = true → R.testBit i = true ∧ C.testBit j = true ∧ (bitR r i j q).toNat = b) → need t R2 C2 ≤ d' := by
          intro b R2 C2 hb2 hR2 hC2 hs
          obtain ⟨n1, n2, -⟩ := next_facts (hnx b hb2)
          refine ih (nxt r q b) R2 C2 d' hR2 hC2 n1 (by omega) fun i j a1 b1 c1 d1 => ?_
          obtain ⟨s1, s2, s3⟩ := hs i j a1 b1 c1 d1
          have := h i j a1 b1 s1 s2
          rw [runF_pos, s3] at this
          simp only [List.length_cons] at this
          exact ⟨this.1, by omega⟩
        have hR16 : R < 16 := Nat.lt_of_lt_of_le hR (Nat.pow_le_pow_right (by decide) hn.2)
        have hC16 : C < 16 := Nat.lt_of_lt_of_le hC (Nat.pow_le_pow_right (by decide) hm.2)
        rcases hsp with hsp | hsp
        · have hbi : ∀ i j j2, bitR r i j q = bitR r i j2 q := fun i j j2 => by unfold bitR; rw [hsp]; simp
          obtain ⟨p, hpd⟩ : ∃ p, p = mkM (fun i => R.testBit i && ((bitR r i 0 q).toNat == 1)) t.length := ⟨_, rfl⟩
          have hpb : ∀ i, p.testBit i = (decide (i < t.length) && (R.testBit i && ((bitR r i 0 q).toNat == 1))) := fun i => by rw [hpd]; exact (mkM_bit _ _).2 i
          have hpl2 : p < 2 ^ t.length := by rw [hpd]; exact (mkM_bit _ _).1
          by_cases hA : ∃ i, p.testBit i = true
          · by_cases hB : ∃ i, R.testBit i = true ∧ p.testBit i = false
            · have hsub : p ∈ subs R := sub_of_bits hR hn.2 (fun i hi => by rw [hpb] at hi; simp only [Bool.and_eq_true] at hi; exact hi.2.1) hA hB
              have h1 := need_row (t := t) (C := C) hsub
              have h2 := step 1 p C (by decide) hpl2 hC fun i j _ _ c e => by
                rw [hpb] at c; simp only [Bool.and_eq_true, beq_iff_eq] at c
                exact ⟨c.2.1, e, by rw [hbi i j 0]; exact c.2.2⟩
              have h3 := step 0 (R - p) C (by decide) (Nat.lt_of_le_of_lt (Nat.sub_le _ _) hR) hC fun i j a _ c e => by
                rw [(sub_bits hR16 hsub).2.1] at c
                simp only [Bool.and_eq_true, Bool.not_eq_true'] at c
                refine ⟨c.1, e, ?_⟩
                have c2 := c.2
                rw [hpb, c.1, decide_eq_true a] at c2
                rw [hbi i j 0]
                rcases hb i 0 with g | g
                · exact g
                · rw [g] at c2; simp at c2
              omega
            · have := step 1 R C (by decide) hR hC fun i j _ _ c e => by
                refine ⟨c, e, ?_⟩
                cases g : p.testBit i
                · exact absurd ⟨i, c, g⟩ hB
                · rw [hpb] at g; simp only [Bool.and_eq_true, beq_iff_eq] at g
                  rw [hbi i j 0]; exact g.2.2
              omega
          · have := step 0 R C (by decide) hR hC fun i j a _ c e => by
              refine ⟨c, e, ?_⟩
              rw [hbi i j 0]
              rcases hb i 0 with g | g
              · exact g
              · exact absurd ⟨i, by rw [hpb, c, g, decide_eq_true a]; rfl⟩ hA
            omega
        · have hne : ¬ spk r q = 0 := by omega
          have hbi : ∀ i i2 j, bitR r i j q = bitR r i2 j q := fun i i2 j => by unfold bitR; rw [if_neg hne, if_neg hne]
          obtain ⟨p, hpd⟩ : ∃ p, p = mkM (fun j => C.testBit j && ((bitR r 0 j q).toNat == 1)) (wid t) := ⟨_, rfl⟩
          have hpb : ∀ j, p.testBit j = (decide (j < wid t) && (C.testBit j && ((bitR r 0 j q).toNat == 1))) := fun j => by rw [hpd]; exact (mkM_bit _ _).2 j
          have hpl2 : p < 2 ^ wid t := by rw [hpd]; exact (mkM_bit _ _).1
          by_cases hA : ∃ i, p.testBit i = true
          · by_cases hB : ∃ i, C.testBit i = true ∧ p.testBit i = false
            · have hsub : p ∈ subs C := sub_of_bits hC hm.2 (fun i hi => by rw [hpb] at hi; simp only [Bool.and_eq_true] at hi; exact hi.2.1) hA hB
              have h1 := need_col (t := t) (R := R) hsub
              have h2 := step 1 R p (by decide) hR hpl2 fun i j _ _ c e => by
                rw [hpb] at e; simp only [Bool.and_eq_true, beq_iff_eq] at e
                exact ⟨c, e.2.1, by rw [hbi i 0 j]; exact e.2.2⟩
              have h3 := step 0 R (C - p) (by decide) hR (Nat.lt_of_le_of_lt (Nat.sub_le _ _) hC) fun i j _ a c e => by
                rw [(sub_bits hC16 hsub).2.1] at e
                simp only [Bool.and_eq_true, Bool.not_eq_true'] at e
                refine ⟨c, e.1, ?_⟩
                have c2 := e.2
                rw [hpb, e.1, decide_eq_true a] at c2
                rw [hbi i 0 j]
                rcases hb 0 j with g | g
                · exact g
                · rw [g] at c2; simp at c2
              omega
            · have := step 1 R C (by decide) hR hC fun i j _ _ c e => by
                refine ⟨c, e, ?_⟩
                cases g : p.testBit j
                · exact absurd ⟨j, e, g⟩ hB
                · rw [hpb] at g; simp only [Bool.and_eq_true, beq_iff_eq] at g
                  rw [hbi i 0 j]; exact g.2.2
              omega
          · have := step 0 R C (by decide) hR hC fun i j _ a c e => by
              refine ⟨c, e, ?_⟩
              rw [hbi i 0 j]
              rcases hb 0 j with g | g
              · exact g
              · exact absurd ⟨j, by rw [hpb, e, g, decide_eq_true a]; rfl⟩ hA
            omega
      · rw [need_plain hpl]; omega
/-- the first split is one: both parts need less -/
theorem first_split {t : List (List Int)} (hn : t.length ≤ 4) (hm : wid t ≤ 4) {R C : Nat} (hR0 : 0 < R) (hC0 : 0 < C) (hR2 : R < 2 ^ t.length) (hC2 : C < 2 ^ wid t) (hp : plB t R C = false) :
    (∃ p, firstV t R C = (0, p) ∧ p ∈ subs R ∧ aft0 t R C p = need t R C) ∨ ∃ p, firstV t R C = (1, p) ∧ p ∈ subs C ∧ aft1 t R C p = need t R C := by
  have hR16 : R < 16 := Nat.lt_of_lt_of_le hR2 (Nat.pow_le_pow_right (by decide) hn)
  have hC16 : C < 16 := Nat.lt_of_lt_of_le hC2 (Nat.pow_le_pow_right (by decide) hm)
  have hcard := need_card hn hm _ R C (Nat.le_refl _) hR0 hC0 hR16 hC16 hR2 hC2
  have c1 := card_le R hR16
  have c2 := card_le C hC16
  unfold firstV
  cases e0 : fst0 t R C with
  | some p =>
    left
    refine ⟨p, rfl, ?_, ?_⟩
    · exact (subs_iff R p).2 ((spl_iff hn hR2).1 (List.mem_of_find?_eq_some e0))
    · unfold fst0 at e0
      have := List.find?_some e0
      exact eq_of_beq this
  | none =>
    right
    cases e1 : fst1 t R C with
    | some p =>
      refine ⟨p, rfl, ?_, ?_⟩
      · exact (subs_iff C p).2 ((spl_iff hm hC2).1 (List.mem_of_find?_eq_some e1))
      · unfold fst1 at e1
        have := List.find?_some e1
        exact eq_of_beq this
    | none =>
      exfalso
      unfold fst0 at e0
      unfold fst1 at e1
      rw [List.find?_eq_none] at e0 e1
      rcases need_cases t R C with h | ⟨p, h1, h2⟩ | ⟨p, h1, h2⟩ | h
      · rw [hp] at h; cases h
      · exact e0 p ((spl_iff hn hR2).2 (subs_mem h1)) (by unfold aft0; rw [h2, Nat.max_comm]; simp)
      · exact e1 p ((spl_iff hm hC2).2 (subs_mem h1)) (by unfold aft1; rw [h2, Nat.max_comm]; simp)
      · omega
end Go.Proofs.Ytpieaeokbblflaa
/- The contracts of TalkBits on both sides; conditions: none. -/
namespace Go.Proofs.Ytpieaeokbblflaa
open Go.RowKit

theorem c_l1Most (a b : Int) (w : World) : Calls Try.prog 94 #[.int .i64 a, .int .i64 b] w fun e w' => e = .returned (.int .i64 (max a b)) ∧ w = w' := by
  by_cases h : b < a
  all_goals
    go_enter Try.func94, Try.ntmps94
    go_wp2
    go_ret
    exact ⟨by rw [show max a b = _ by first | exact Int.max_eq_left (by omega) | exact Int.max_eq_right (by omega)]; rfl, rfl⟩

/-- the greatest length among the first l runs of a row -/
def rowM (r : TalkD) (i : Nat) : Nat → Nat
  | 0 => 0
  | l + 1 => max (rowM r i l) (runL r i l).length
/-- .. among all of the first k rows -/
def allM (r : TalkD) (C : Nat) : Nat → Nat
  | 0 => 0
  | k + 1 => max (allM r C k) (rowM r k C)
theorem allM_step (r : TalkD) (C k l : Nat) : max (allM r C k) (rowM r k (l + 1)) = max (max (allM r C k) (rowM r k l)) (runL r k l).length := by
  simp only [rowM]; omega
def bitsT (r : TalkD) (rows cols : Int) : Int := if validB r rows cols then (allM r cols.toNat rows.toNat : Int) else 0
theorem runF_len (r : TalkD) (i j f : Nat) (k : Int) : (runF r i j f k).1.length ≤ f := by
  induction f generalizing k with
  | zero => simp [runF]
  | succ f ih =>
    by_cases h : k < 0
    · simp [runF, h]
    · simp only [runF, h, if_false, List.length_cons]
      have := ih (nxt r k.toNat (bitR r i j k.toNat).toNat)
      omega
theorem runL_len (r : TalkD) (i j : Nat) : (runL r i j).length ≤ r.p.length := runF_len _ _ _ _ _
theorem rowM_le (r : TalkD) (i l : Nat) : rowM r i l ≤ r.p.length := by
  induction l with
  | zero => simp [rowM]
  | succ l ih => simp only [rowM]; have := runL_len r i l; omega
theorem allM_le (r : TalkD) (C k : Nat) : allM r C k ≤ r.p.length := by
  induction k with
  | zero => simp [allM]
  | succ k ih => simp only [allM]; have := rowM_le r k C; omega

set_option maxHeartbeats 2000000 in
theorem c_spec_TalkBits (v : Value) (r : TalkD) (rows cols : Int) (w : World) (h : TalkR w v r) :
    Calls Try.prog 47 #[v, .int .i64 rows, .int .i64 cols] w fun e w' => e = .returned (.tuple #[.int .i64 (bitsT r rows cols), .bool (validB r rows cols)]) ∧ Below w.heap.size w w' := by
  obtain ⟨v1, v2, v3, rfl, hp, hs, hx⟩ := id h
  obtain ⟨a1, k1, rfl, l1, -⟩ := hp.out
  obtain ⟨a2, k2, rfl, l2⟩ := hs.out
  obtain ⟨a3, k3, rfl, l3⟩ := hx.out
  have hA := (Below.refl w.heap.size w).alloc (Nat.le_refl _) (.cells #[.slice a1 r.p.length k1, .slice a2 r.s.length k2, .slice a3 r.x.length k3] 38)
  have pB : (w.alloc (.cells #[.slice a1 r.p.length k1, .slice a2 r.s.length k2, .slice a3 r.x.length k3] 38)).heap[w.heap.size]? = some (.cells #[.slice a1 r.p.length k1, .slice a2 r.s.length k2, .slice a3 r.x.length k3] 38 (0, 0)) := heap_alloc_at rfl
  cases hv : validB r rows cols
  · have hF : Hid (bitsT r rows cols = 0) := Lib.hid (by simp [bitsT, hv])
    replace hv := Lib.hid hv
    go_enter Try.func47, Try.ntmps47
    go_wp2_with fail
    refine (c_l8Valid _ r rows cols _ (h.below hA)).mono ?_
    rintro e w1 ⟨rfl, hb1⟩
    rw [hv.out]
    replace hA := hA.trans (hb1.mono (by simp))
    go_wp2
    go_ret2
    exact ⟨by rw [hF.out]; rfl, hA⟩
  obtain ⟨n1, n2⟩ := valid_size hv
  obtain ⟨R, rfl⟩ := Int.eq_ofNat_of_zero_le (show 0 ≤ rows by omega)
  obtain ⟨C, rfl⟩ := Int.eq_ofNat_of_zero_le (show 0 ≤ cols by omega)
  have hF : Hid (bitsT r R C = (allM r C R : Int)) := Lib.hid (by simp [bitsT, hv])
  have hok : ∀ i j, i < R → j < C → RunOk r i j := fun i j hi hj => runOk hv (by omega) (by omega)
  have hpl := (hok 0 0 (by omega) (by omega)).1
  replace hok := Lib.hid hok
  replace hv := Lib.hid hv
  go_enter Try.func47, Try.ntmps47
  go_wp2_with fail
  refine (c_l8Valid _ r R C _ (h.below hA)).mono ?_
  rintro e w1 ⟨rfl, hb1⟩
  rw [hv.out]
  replace pB := blk_later hb1 pB
  replace hA := hA.trans (hb1.mono (by simp))
  go_wp2_with fail
  go_loopw [8, 9] (fun m i wr => ∃ k : Nat, k ≤ R ∧ i = .int .i64 k ∧ m = .int .i64 (allM r C k : Int) ∧ Below w.heap.size w wr ∧ wr.heap[w.heap.size]? = some (.cells #[.slice a1 r.p.length k1, .slice a2 r.s.length k2, .slice a3 r.x.length k3] 38 (0, 0))) (fun _ i _ => R - (intOf i).toNat)
  case atStart => exact ⟨0, Nat.zero_le _, rfl, rfl, hA, pB⟩
  case round =>
    clear pB hA hb1
    obtain ⟨k, hk, rfl, rfl, hB, pBw⟩ := hrel
    have hM := allM_le r C k
    by_cases hltk : k < R
    · obtain ⟨wo, rfl⟩ : ∃ wo : World, wo = wr := ⟨_, rfl⟩
      have hd : decide ((k : Int) < (R : Int)) = true := by simp; omega
      go_wp2
      go_loopw [8, 10] (fun m i wr => ∃ l : Nat, l ≤ C ∧ i = .int .i64 l ∧ m = .int .i64 ((max (allM r C k) (rowM r k l) : Nat) : Int) ∧ Below w.heap.size w wr ∧ wr.heap[w.heap.size]? = some (.cells #[.slice a1 r.p.length k1, .slice a2 r.s.length k2, .slice a3 r.x.length k3] 38 (0, 0))) (fun _ i _ => C - (intOf i).toNat)
      case atStart => exact ⟨0, Nat.zero_le _, rfl, by simp [rowM], hB, pBw⟩
      case round =>
        clear pBw hB
        obtain ⟨l, hl, rfl, rfl, hB, pBw⟩ := hrel
        have hlb := (Array.getElem?_eq_some_iff.1 pBw).1
        obtain ⟨⟨z0, z1, z2⟩, -⟩ := blk3 pBw
        have hMr := rowM_le r k l
        by_cases hltl : l < C
        · have hd2 : decide ((l : Int) < (C : Int)) = true := by simp; omega
          have hln := runL_len r k l
          go_wp2_with fail
          refine (c_l8Run _ r k l _ (h.below hB) (hok.out k l hltk hltl)).mono ?_
          rintro e w2 ⟨v2, rfl, hv2, hb2⟩
          obtain ⟨ad2, c2, rfl, -, -⟩ := hv2.ints.out
          replace pBw := blk_later hb2 pBw
          replace hB := bstep hB hb2
          have hst := Lib.hid (allM_step r C k l)
          obtain ⟨M, hM2⟩ : ∃ M, M = max (allM r C k) (rowM r k l) := ⟨_, rfl⟩
          rw [← hM2] at hst ⊢
          have hMb : M ≤ 32 := by omega
          replace hM2 := Lib.hid hM2
          clear z0 z1 z2
          go_wp2_with fail
          refine (c_l1Most _ _ _).mono ?_
          rintro e _ ⟨rfl, rfl⟩
          have hmx : Hid (max (M : Int) ((runL r k l).length : Int) = ((max (allM r C k) (rowM r k (l + 1)) : Nat) : Int)) := Lib.hid (by rw [hst.out]; omega)
          go_wp2
          go_roundw
          case rel => exact ⟨l + 1, by omega, by go_num, by rw [hmx.out], hB, pBw⟩
          case measure => simp [intOf]; omega
        · obtain rfl : l = C := by omega
          go_wp2
          go_roundw
          case rel => exact ⟨k + 1, by omega, by go_num, by simp [allM], hB, pBw⟩
          case measure => simp [intOf]; omega
    · obtain rfl : k = R := by omega
      go_wp2
      go_ret2
      exact ⟨by rw [hF.out]; rfl, hB⟩
set_option maxHeartbeats 2000000 in
theorem c_impl_TalkBits (v : Value) (r : TalkD) (rows cols : Int) (w : World) (h : TalkR w v r) :
    Calls Try.prog 46 #[v, .int .i64 rows, .int .i64 cols] w fun e w' => e = .returned (.tuple #[.int .i64 (bitsT r rows cols), .bool (validB r rows cols)]) ∧ Below w.heap.size w w' := by
  obtain ⟨v1, v2, v3, rfl, hp, hs, hx⟩ := id h
  obtain ⟨a1, k1, rfl, l1, -⟩ := hp.out
  obtain ⟨a2, k2, rfl, l2⟩ := hs.out
  obtain ⟨a3, k3, rfl, l3⟩ := hx.out
  have hA := (Below.refl w.heap.size w).alloc (Nat.le_refl _) (.cells #[.slice a1 r.p.length k1, .slice a2 r.s.length k2, .slice a3 r.x.length k3] 38)
  have pB : (w.alloc (.cells #[.slice a1 r.p.length k1, .slice a2 r.s.length k2, .slice a3 r.x.length k3] 38)).heap[w.heap.size]? = some (.cells #[.slice a1 r.p.length k1, .slice a2 r.s.length k2, .slice a3 r.x.length k3] 38 (0, 0)) := heap_alloc_at rfl
  cases hv : validB r rows cols
  · have hF : Hid (bitsT r rows cols = 0) := Lib.hid (by simp [bitsT, hv])
    replace hv := Lib.hid hv
    go_enter Try.func46, Try.ntmps46
    go_wp2_with fail
    refine (c_isTalkV _ r rows cols _ (h.below hA)).mono ?_
    rintro e w1 ⟨rfl, hb1⟩
    rw [hv.out]
    replace hA := hA.trans (hb1.mono (by simp))
    go_wp2
    go_ret2
    exact ⟨by rw [hF.out]; rfl, hA⟩
  obtain ⟨n1, n2⟩ := valid_size hv
  obtain ⟨R, rfl⟩ := Int.eq_ofNat_of_zero_le (show 0 ≤ rows by omega)
  obtain ⟨C, rfl⟩ := Int.eq_ofNat_of_zero_le (show 0 ≤ cols by omega)
  have hF : Hid (bitsT r R C = (allM r C R : Int)) := Lib.hid (by simp [bitsT, hv])
  have hok : ∀ i j, i < R → j < C → RunOk r i j := fun i j hi hj => runOk hv (by omega) (by omega)
  have hpl := (hok 0 0 (by omega) (by omega)).1
  replace hok := Lib.hid hok
  replace hv := Lib.hid hv
  go_enter Try.func46, Try.ntmps46
  go_wp2_with fail
  refine (c_isTalkV _ r R C _ (h.below hA)).mono ?_
  rintro e w1 ⟨rfl, hb1⟩
  rw [hv.out]
  replace pB := blk_later hb1 pB
  replace hA := hA.trans (hb1.mono (by simp))
  go_wp2_with fail
  go_loopw [8, 19] (fun m i wr => ∃ k : Nat, k ≤ R ∧ i = .int .i64 k ∧ m = .int .i64 (allM r C k : Int) ∧ Below w.heap.size w wr ∧ wr.heap[w.heap.size]? = some (.cells #[.slice a1 r.p.length k1, .slice a2 r.s.length k2, .slice a3 r.x.length k3] 38 (0, 0))) (fun _ i _ => R - (intOf i).toNat)
  case atStart => exact ⟨0, Nat.zero_le _, rfl, rfl, hA, pB⟩
  case round =>
    clear pB hA hb1
    obtain ⟨k, hk, rfl, rfl, hB, pBw⟩ := hrel
    have hM := allM_le r C k
    by_cases hltk : k < R
    · obtain ⟨wo, rfl⟩ : ∃ wo : World, wo = wr := ⟨_, rfl⟩
      have hd : decide ((k : Int) < (R : Int)) = true := by simp; omega
      go_wp2
      go_loopw [8, 23] (fun m i wr => ∃ l : Nat, l ≤ C ∧ i = .int .i64 l ∧ m = .int .i64 ((max (allM r C k) (rowM r k l) : Nat) : Int) ∧ Below w.heap.size w wr ∧ wr.heap[w.heap.size]? = some (.cells #[.slice a1 r.p.length k1, .slice a2 r.s.length k2, .slice a3 r.x.length k3] 38 (0, 0))) (fun _ i _ => C - (intOf i).toNat)
      case atStart => exact ⟨0, Nat.zero_le _, rfl, by simp [rowM], hB, pBw⟩
      case round =>
        clear pBw hB
        obtain ⟨l, hl, rfl, rfl, hB, pBw⟩ := hrel
        have hlb := (Array.getElem?_eq_some_iff.1 pBw).1
        obtain ⟨⟨z0, z1, z2⟩, -⟩ := blk3 pBw
        have hMr := rowM_le r k l
        by_cases hltl : l < C
        · have hd2 : decide ((l : Int) < (C : Int)) = true := by simp; omega
          have hln := runL_len r k l
          go_wp2_with fail
          refine (c_run _ r k l _ (h.below hB) (hok.out k l hltk hltl)).mono ?_
          rintro e w2 ⟨v2, rfl, hv2, hb2⟩
          obtain ⟨ad2, c2, rfl, -, -⟩ := hv2.ints.out
          replace pBw := blk_later hb2 pBw
          replace hB := bstep hB hb2
          have hst := Lib.hid (allM_step r C k l)
          obtain ⟨M, hM2⟩ : ∃ M, M = max (allM r C k) (rowM r k l) := ⟨_, rfl⟩
          rw [← hM2] at hst ⊢
          have hMb : M ≤ 32 := by omega
          replace hM2 := Lib.hid hM2
          clear z0 z1 z2
          by_cases hcmp : M < (runL r k l).length
          · have hmx : Hid (((runL r k l).length : Int) = ((max (allM r C k) (rowM r k (l + 1)) : Nat) : Int)) := Lib.hid (by rw [hst.out]; omega)
            go_wp2
            go_roundw
            case rel => exact ⟨l + 1, by omega, by go_num, by first | rw [hmx.out] | rw [← hmx.out], hB, pBw⟩
            case measure => simp [intOf]; omega
          · have hmx : Hid ((M : Int) = ((max (allM r C k) (rowM r k (l + 1)) : Nat) : Int)) := Lib.hid (by rw [hst.out]; omega)
            go_wp2
            go_roundw
            case rel => exact ⟨l + 1, by omega, by go_num, by first | rw [hmx.out] | rw [← hmx.out], hB, pBw⟩
            case measure => simp [intOf]; omega
        · obtain rfl : l = C := by omega
          go_wp2
          go_roundw
          case rel => exact ⟨k + 1, by omega, by go_num, by simp [allM], hB, pBw⟩
          case measure => simp [intOf]; omega
    · obtain rfl : k = R := by omega
      go_wp2
      go_ret2
      exact ⟨by rw [hF.out]; rfl, hB⟩
end Go.Proofs.Ytpieaeokbblflaa
/- What the law on talks says of the best talk: it is a talk, solves its task and has as many bits as the need; conditions: none. -/
namespace Go.Proofs.Ytpieaeokbblflaa
open Go.RowKit

/-- the steps lie in a talk from a place on -/
def Lies (r : TalkD) (pos : Nat) (l : List Step) : Prop := ∀ q s, l[q]? = some s → spk r (pos + q) = s.1 ∧ rowR r (pos + q) = s.2.1 ∧ ∀ b, nxt r (pos + q) b = pairN s.2.2 b
theorem Lies.head {r : TalkD} {pos : Nat} {s : Step} {l : List Step} (h : Lies r pos (s :: l)) : spk r pos = s.1 ∧ rowR r pos = s.2.1 ∧ ∀ b, nxt r pos b = pairN s.2.2 b := by simpa using h 0 s rfl
theorem Lies.tail {r : TalkD} {pos : Nat} {s : Step} {l : List Step} (h : Lies r pos (s :: l)) : Lies r (pos + 1) l := fun q x hx => by
  have := h (q + 1) x (by simpa using hx)
  rwa [show pos + (q + 1) = pos + 1 + q by omega] at this
theorem Lies.left {r : TalkD} {pos : Nat} {l k : List Step} (h : Lies r pos (l ++ k)) : Lies r pos l := fun q x hx => h q x (by rw [List.getElem?_append_left (List.getElem?_eq_some_iff.1 hx).1]; exact hx)
theorem Lies.right {r : TalkD} {pos : Nat} {l k : List Step} (h : Lies r pos (l ++ k)) : Lies r (pos + l.length) k := fun q x hx => by
  have := h (l.length + q) x (by rw [List.getElem?_append_right (by omega)]; simpa using hx)
  rwa [← Nat.add_assoc] at this

theorem plN_01 (t : List (List Int)) (R C : Nat) : plN t R C = 0 ∨ plN t R C = 1 := by unfold plN; split <;> simp
theorem plN_ent {t : List (List Int)} (ht : taskB t = true) {R C i j : Nat} (hp : plB t R C = true) (hi : i < t.length) (hj : j < wid t) (hR : R.testBit i = true) (hC : C.testBit j = true) : ent t i j = plN t R C := by
  obtain ⟨-, -, hl, h01⟩ := taskB_yes ht
  have he : ent t i j = 0 ∨ ent t i j = 1 := by
    have h1 := h01 i hi j (by rw [hl i hi]; exact hj)
    have : ent t i j = t[i][j]'(by rw [hl i hi]; exact hj) := by
      unfold ent
      have e1 : t.getD i [] = t[i] := by simp [List.getD, hi]
      rw [e1]
      have : j < t[i].length := by rw [hl i hi]; exact hj
      simp [List.getD, this]
    rw [this]; exact h1
  have h1 := hasP_iff t R C 1
  unfold plN
  split
  · rename_i hh
    rw [h1] at hh
    obtain ⟨a, b, c, d, e, f, g⟩ := hh
    rcases he with he | he
    · rw [plB_iff] at hp
      exact absurd ⟨⟨a, b, c, d, e, f, g⟩, i, j, hi, hj, hR, hC, he⟩ hp
    · exact he
  · rename_i hh
    rcases he with he | he
    · exact he
    · rw [h1] at hh
      exact absurd ⟨i, j, hi, hj, hR, hC, he⟩ hh

theorem bitsL_get (n p i : Nat) (hi : i < n) : (bitsL n p).getD i 0 = if p.testBit i then 1 else 0 := by
  have e : (bitsL n p).getD i 0 = bitAt i p := by simp [bitsL, mapR, List.getD, hi]
  rw [e]
  rw [Nat.testBit_eq_decide_div_mod_eq]
  unfold bitAt
  have : p / 2 ^ i % 2 = 0 ∨ p / 2 ^ i % 2 = 1 := by omega
  rcases this with h | h <;> simp [h]

theorem subs_pos {R p : Nat} (h : p ∈ subs R) : 0 < p ∧ p < R := ⟨(subs_mem h).1, (subs_mem h).2.1⟩

/-- the runs of what lies there end right, and say no more than is needed -/
theorem steps_right {t : List (List Int)} (ht : taskB t = true) (r : TalkD) : ∀ (f R C pos : Nat), R + C ≤ f → 0 < R → 0 < C → R < 2 ^ t.length → C < 2 ^ wid t → Lies r pos (stepsF t f R C pos).1 →
    ∀ g, (stepsF t f R C pos).1.length ≤ g → ∀ i j, i < t.length → j < wid t → R.testBit i = true → C.testBit j = true →
      -1 - (runF r i j g (stepsF t f R C pos).2).2 = ent t i j ∧ (runF r i j g (stepsF t f R C pos).2).1.length ≤ need t R C := by
  obtain ⟨hn, hm, -, -⟩ := taskB_yes ht
  intro f
  induction f with
  | zero => intro R C pos h h0; omega
  | succ f ih =>
    intro R C pos hf hR0 hC0 hR2 hC2 hL g hg i j hi hj hiR hjC
    have hR16 : R < 16 := Nat.lt_of_lt_of_le hR2 (Nat.pow_le_pow_right (by decide) hn.2)
    have hC16 : C < 16 := Nat.lt_of_lt_of_le hC2 (Nat.pow_le_pow_right (by decide) hm.2)
    cases hp : plB t R C
    · rcases first_split hn.2 hm.2 hR0 hC0 hR2 hC2 hp with ⟨p, hv, hs, hn1⟩ | ⟨p, hv, hs, hn1⟩
      · rw [stepsF_0 hp hv] at hL hg ⊢
        obtain ⟨p0, p1⟩ := subs_pos hs
        obtain ⟨g, rfl⟩ : ∃ g', g = g' + 1 := ⟨g - 1, by simp at hg; omega⟩
        obtain ⟨l1, l2, l3⟩ := hL.head
        have hLt := hL.tail
        simp only [List.length_cons, List.length_append] at hg
        have hb : bitR r i j pos = if p.testBit i then 1 else 0 := by unfold bitR; rw [l1, l2, if_pos rfl]; exact bitsL_get _ _ _ hi
        rw [runF_pos, hb]
        unfold aft0 at hn1
        cases hpi : p.testBit i
        · have hc := ih (R - p) C (pos + 1) (by omega) (by omega) hC0 (by omega) hC2 hLt.left g (by omega) i j hi hj (by rw [(sub_bits hR16 hs).2.1, hiR, hpi]; rfl) hjC
          have e : nxt r pos ((if false = true then (1 : Int) else 0)).toNat = (stepsF t f (R - p) C (pos + 1)).2 := by rw [l3]; rfl
          rw [e]
          simp only [List.length_cons]
          exact ⟨hc.1, by omega⟩
        · have hc := ih p C (pos + 1 + (stepsF t f (R - p) C (pos + 1)).1.length) (by omega) (by omega) hC0 (by omega) hC2 hLt.right g (by omega) i j hi hj hpi hjC
          have e : nxt r pos ((if true = true then (1 : Int) else 0)).toNat = (stepsF t f p C (pos + 1 + (stepsF t f (R - p) C (pos + 1)).1.length)).2 := by rw [l3]; rfl
          rw [e]
          simp only [List.length_cons]
          exact ⟨hc.1, by omega⟩
      · rw [stepsF_1 hp hv] at hL hg ⊢
        obtain ⟨p0, p1⟩ := subs_pos hs
        obtain ⟨g, rfl⟩ : ∃ g', g = g' + 1 := ⟨g - 1, by simp at hg; omega⟩
        obtain ⟨l1, l2, l3⟩ := hL.head
        have hLt := hL.tail
        simp only [List.length_cons, List.length_append] at hg
        have hb : bitR r i j pos = if p.testBit j then 1 else 0 := by unfold bitR; rw [l1, l2, if_neg (by simp)]; exact bitsL_get _ _ _ hj
        rw [runF_pos, hb]
        unfold aft1 at hn1
        cases hpi : p.testBit j
        · have hc := ih R (C - p) (pos + 1) (by omega) hR0 (by omega) hR2 (by omega) hLt.left g (by omega) i j hi hj hiR (by rw [(sub_bits hC16 hs).2.1, hjC, hpi]; rfl)
          have e : nxt r pos ((if false = true then (1 : Int) else 0)).toNat = (stepsF t f R (C - p) (pos + 1)).2 := by rw [l3]; rfl
          rw [e]
          simp only [List.length_cons]
          exact ⟨hc.1, by omega⟩
        · have hc := ih R p (pos + 1 + (stepsF t f R (C - p) (pos + 1)).1.length) (by omega) hR0 (by omega) hR2 (by omega) hLt.right g (by omega) i j hi hj hiR hpi
          have e : nxt r pos ((if true = true then (1 : Int) else 0)).toNat = (stepsF t f R p (pos + 1 + (stepsF t f R (C - p) (pos + 1)).1.length)).2 := by rw [l3]; rfl
          rw [e]
          simp only [List.length_cons]
          exact ⟨hc.1, by omega⟩
    · have e : stepsF t (f + 1) R C pos = ([], -1 - plN t R C) := by unfold stepsF; rw [if_pos hp]
      rw [e]
      have h01 := plN_01 t R C
      rw [runF_neg _ _ _ _ _ (by simp only; omega)]
      have := plN_ent ht hp hi hj hiR hjC
      exact ⟨by simp only; omega, by simp⟩

/-- the steps are fewer than the power of the need; each is as it should be -/
theorem steps_ok {t : List (List Int)} (ht : taskB t = true) : ∀ (f R C pos : Nat), R + C ≤ f → 0 < R → 0 < C → R < 2 ^ t.length → C < 2 ^ wid t →
    (stepsF t f R C pos).1.length + 1 ≤ 2 ^ need t R C ∧ (((stepsF t f R C pos).2 = pos ∧ 0 < (stepsF t f R C pos).1.length) ∨ -2 ≤ (stepsF t f R C pos).2 ∧ (stepsF t f R C pos).2 < 0) ∧
    ∀ N, pos + (stepsF t f R C pos).1.length ≤ N → ∀ q s, (stepsF t f R C pos).1[q]? = some s → inB 0 1 s.1 = true ∧ bitsB (sideV t.length (wid t) s.1) s.2.1 = true ∧ ∀ b, nextOk N (pos + q) (pairN s.2.2 b) = true := by
  obtain ⟨hn, hm, -, -⟩ := taskB_yes ht
  intro f
  induction f with
  | zero => intro R C pos h h0; omega
  | succ f ih =>
    intro R C pos hf hR0 hC0 hR2 hC2
    cases hp : plB t R C
    · have core : ∀ (R1 C1 R2 C2 x : Nat) (sp : Int) (row : List Int), R1 + C1 ≤ f → 0 < R1 → 0 < C1 → R1 < 2 ^ t.length → C1 < 2 ^ wid t → R2 + C2 ≤ f → 0 < R2 → 0 < C2 → R2 < 2 ^ t.length → C2 < 2 ^ wid t → inB 0 1 sp = true → bitsB (sideV t.length (wid t) sp) row = true →
          1 + max (need t R1 C1) (need t R2 C2) = need t R C → x = pos + 1 + (stepsF t f R1 C1 (pos + 1)).1.length →
          ∀ l : List Step, l = ((sp, row, ((stepsF t f R1 C1 (pos + 1)).2, (stepsF t f R2 C2 x).2)) :: ((stepsF t f R1 C1 (pos + 1)).1 ++ (stepsF t f R2 C2 x).1)) →
          l.length + 1 ≤ 2 ^ need t R C ∧ 0 < l.length ∧ ∀ N, pos + l.length ≤ N → ∀ q s, l[q]? = some s → inB 0 1 s.1 = true ∧ bitsB (sideV t.length (wid t) s.1) s.2.1 = true ∧ ∀ b, nextOk N (pos + q) (pairN s.2.2 b) = true := by
        intro R1 C1 R2 C2 x sp row a1 a2 a3 a4 a5 b1 b2 b3 b4 b5 hsp hrow hnd hx l hl
        obtain ⟨c1, c2, c3⟩ := ih R1 C1 (pos + 1) a1 a2 a3 a4 a5
        obtain ⟨d1, d2, d3⟩ := ih R2 C2 x b1 b2 b3 b4 b5
        generalize stepsF t f R1 C1 (pos + 1) = A at *
        generalize stepsF t f R2 C2 x = D at *
        have hlen : l.length = 1 + (A.1.length + D.1.length) := by rw [hl]; simp; omega
        refine ⟨?_, by omega, ?_⟩
        · have e1 : 2 ^ need t R1 C1 ≤ 2 ^ (max (need t R1 C1) (need t R2 C2)) := Nat.pow_le_pow_right (by decide) (by omega)
          have e2 : 2 ^ need t R2 C2 ≤ 2 ^ (max (need t R1 C1) (need t R2 C2)) := Nat.pow_le_pow_right (by decide) (by omega)
          rw [← hnd, Nat.add_comm 1, Nat.pow_succ]
          omega
        · intro N hN q s hs
          rw [hl] at hs
          cases q with
          | zero =>
            simp only [List.getElem?_cons_zero, Option.some.injEq] at hs
            subst hs
            refine ⟨hsp, hrow, fun b => ?_⟩
            unfold nextOk pairN
            simp only [Bool.and_eq_true, inB_iff, Bool.not_eq_true', Bool.and_eq_false_iff, decide_eq_false_iff_not]
            split
            · rcases c2 with ⟨c2, c4⟩ | ⟨c2, c4⟩ <;> omega
            · rcases d2 with ⟨d2, d4⟩ | ⟨d2, d4⟩ <;> omega
          | succ q =>
            rw [List.getElem?_cons_succ] at hs
            by_cases hq : q < A.1.length
            · rw [List.getElem?_append_left hq] at hs
              have := c3 N (by omega) q s hs
              rwa [show pos + 1 + q = pos + (q + 1) by omega] at this
            · rw [List.getElem?_append_right (by omega)] at hs
              have := d3 N (by omega) (q - A.1.length) s hs
              rwa [show x + (q - A.1.length) = pos + (q + 1) by omega] at this
      have brow : ∀ n p : Nat, bitsB (n : Int) (bitsL n p) = true := by
        intro n p
        unfold bitsB
        rw [bitsL_len]
        simp only [beq_self_eq_true, Bool.true_and, List.all_eq_true]
        intro x hx
        obtain ⟨k, -, rfl⟩ := mapR_memE _ _ _ hx
        have := bitAt_01 k p
        rw [inB_iff]; omega
      rcases first_split hn.2 hm.2 hR0 hC0 hR2 hC2 hp with ⟨p, hv, hs, hn1⟩ | ⟨p, hv, hs, hn1⟩
      · obtain ⟨p0, p1⟩ := subs_pos hs
        rw [stepsF_0 hp hv]
        obtain ⟨k1, k2, k3⟩ := core (R - p) C p C _ 0 (bitsL t.length p) (by omega) (by omega) hC0 (by omega) hC2 (by omega) (by omega) hC0 (by omega) hC2 (by decide) (brow _ _) hn1 rfl _ rfl
        exact ⟨k1, .inl ⟨rfl, k2⟩, k3⟩
      · obtain ⟨p0, p1⟩ := subs_pos hs
        rw [stepsF_1 hp hv]
        obtain ⟨k1, k2, k3⟩ := core R (C - p) R p _ 1 (bitsL (wid t) p) (by omega) hR0 (by omega) hR2 (by omega) (by omega) hR0 (by omega) hR2 (by omega) (by decide) (brow _ _) hn1 rfl _ rfl
        exact ⟨k1, .inl ⟨rfl, k2⟩, k3⟩
    · have e : stepsF t (f + 1) R C pos = ([], -1 - plN t R C) := by unfold stepsF; rw [if_pos hp]
      rw [e]
      have h01 := plN_01 t R C
      refine ⟨?_, .inr (by simp only; omega), fun N _ q s hs => by simp at hs⟩
      have : 0 < 2 ^ need t R C := Nat.pow_pos (by decide)
      simp only [List.length_nil]; omega

theorem allM_up {r : TalkD} {C d : Nat} : ∀ k, (∀ i j, i < k → j < C → (runL r i j).length ≤ d) → allM r C k ≤ d := by
  have rows : ∀ i l, (∀ j, j < l → (runL r i j).length ≤ d) → rowM r i l ≤ d := by
    intro i l
    induction l with
    | zero => intro _; simp [rowM]
    | succ l ih =>
      intro h
      have a := ih fun j hj => h j (by omega)
      have b := h l (by omega)
      simp only [rowM]; omega
  intro k
  induction k with
  | zero => intro _; simp [allM]
  | succ k ih =>
    intro h
    have a := ih fun i j hi hj => h i j (by omega) hj
    have b := rows k C fun j hj => h k j (by omega) hj
    simp only [allM]; omega
theorem allM_down {r : TalkD} {C : Nat} : ∀ k i j, i < k → j < C → (runL r i j).length ≤ allM r C k := by
  have rows : ∀ i l j, j < l → (runL r i j).length ≤ rowM r i l := by
    intro i l
    induction l with
    | zero => intro j hj; omega
    | succ l ih =>
      intro j hj
      simp only [rowM]
      by_cases h : j < l
      · have := ih j h; omega
      · have : j = l := by omega
        subst this; omega
  intro k
  induction k with
  | zero => intro i j hi; omega
  | succ k ih =>
    intro i j hi hj
    simp only [allM]
    by_cases h : i < k
    · have := ih i j h hj; omega
    · have : i = k := by omega
      subst this
      have := rows i C j hj; omega

/-- no talk that solves a task has fewer bits than the need -/
theorem solves_low {r : TalkD} {t : List (List Int)} (h : solvesT r t = true) : needV t ≤ bitsT r t.length (wid t) := by
  unfold solvesT okTS rowS at h
  simp only [Bool.and_eq_true, List.all_eq_true, List.mem_range, beq_iff_eq] at h
  obtain ⟨⟨ht, hv⟩, hs⟩ := h
  obtain ⟨hn, hm, -, -⟩ := taskB_yes ht
  have f1 := full_lt hn
  have f2 := full_lt hm
  unfold needV bitsT
  rw [if_pos ht, if_pos hv]
  have n1 := (valid_step hv).1
  have := talk_low ht hv r.p.length 0 (2 ^ t.length - 1) (2 ^ wid t - 1) (allM r (wid t) t.length) f1.2.2 f2.2.2 (by omega) (by omega) fun i j hi hj _ _ => ⟨hs i hi j hj, allM_down _ i j hi hj⟩
  simp only [Int.toNat_natCast]
  omega
theorem stP_get (l : List Step) (q : Nat) (s : Step) (h : l[q]? = some s) : (stP l).getD q 0 = s.1 ∧ (stS l).getD q [] = s.2.1 ∧ (stX l).getD q (0, 0) = s.2.2 := by
  obtain ⟨hq, rfl⟩ := List.getElem?_eq_some_iff.1 h
  refine ⟨?_, ?_, ?_⟩ <;> simp [stP, stS, stX, List.getD, hq]
/-- the best talk: valid, right, as many bits as the need -/
theorem best_law {t : List (List Int)} (h : mixB t = true) : validB (btD t) t.length (wid t) = true ∧ solvesT (btD t) t = true ∧ bitsT (btD t) t.length (wid t) = needV t ∧ (btD t).p.getD 0 0 = fsN t ∧ (btD t).s.getD 0 [] = fsL t ∧ 0 < (btD t).p.length ∧ 0 < (btD t).s.length := by
  obtain ⟨ht, hp⟩ := mix_yes h
  obtain ⟨hn, hm, -, -⟩ := taskB_yes ht
  have f1 := full_lt hn
  have f2 := full_lt hm
  have hb : btD t = addS ⟨[], [], []⟩ (stepsF t (2 ^ t.length - 1 + (2 ^ wid t - 1)) (2 ^ t.length - 1) (2 ^ wid t - 1) 0).1 := by unfold btD; rw [if_pos h]
  obtain ⟨k1, k2, k3⟩ := steps_ok ht (2 ^ t.length - 1 + (2 ^ wid t - 1)) (2 ^ t.length - 1) (2 ^ wid t - 1) 0 (Nat.le_refl _) f1.1 f2.1 f1.2.2 f2.2.2
  have hr := steps_right ht (btD t) (2 ^ t.length - 1 + (2 ^ wid t - 1)) (2 ^ t.length - 1) (2 ^ wid t - 1) 0 (Nat.le_refl _) f1.1 f2.1 f1.2.2 f2.2.2
  have hnd : need t (2 ^ t.length - 1) (2 ^ wid t - 1) ≤ 3 := need_rows ht 2 t _ _ hn.2 f1.2.2 f2.2.2 fun i hi _ => by simp [List.getD, hi]
  have hfst : (stepsF t (2 ^ t.length - 1 + (2 ^ wid t - 1)) (2 ^ t.length - 1) (2 ^ wid t - 1) 0).2 = 0 ∧ ∃ s, (stepsF t (2 ^ t.length - 1 + (2 ^ wid t - 1)) (2 ^ t.length - 1) (2 ^ wid t - 1) 0).1[0]? = some s ∧ s.1 = fsN t ∧ s.2.1 = fsL t := by
    obtain ⟨f, hf⟩ : ∃ f, 2 ^ t.length - 1 + (2 ^ wid t - 1) = f + 1 := ⟨2 ^ t.length - 1 + (2 ^ wid t - 1) - 1, by omega⟩
    rw [hf]
    unfold fsN fsL
    rw [if_pos h, if_pos h]
    rcases first_split hn.2 hm.2 f1.1 f2.1 f1.2.2 f2.2.2 hp with ⟨p, hv, -, -⟩ | ⟨p, hv, -, -⟩
    · rw [stepsF_0 hp hv, hv]; exact ⟨rfl, _, rfl, rfl, rfl⟩
    · rw [stepsF_1 hp hv, hv]; exact ⟨rfl, _, rfl, rfl, rfl⟩
  generalize hS : stepsF t (2 ^ t.length - 1 + (2 ^ wid t - 1)) (2 ^ t.length - 1) (2 ^ wid t - 1) 0 = S at *
  obtain ⟨z0, s0, hs0, e1, e2⟩ := hfst
  have hpos : 0 < S.1.length := by
    have := (List.getElem?_eq_some_iff.1 hs0).1; omega
  have bp : (btD t).p = stP S.1 := by rw [hb]; simp [addS]
  have bs : (btD t).s = stS S.1 := by rw [hb]; simp [addS]
  have bx : (btD t).x = stX S.1 := by rw [hb]; simp [addS]
  have lp : (btD t).p.length = S.1.length := by rw [bp]; simp [stP]
  have ls : (btD t).s.length = S.1.length := by rw [bs]; simp [stS]
  have lx : (btD t).x.length = S.1.length := by rw [bx]; simp [stX]
  have hL : Lies (btD t) 0 S.1 := by
    intro q s hq
    obtain ⟨a, b, c⟩ := stP_get _ _ _ hq
    rw [Nat.zero_add]
    unfold spk rowR nxt
    rw [bp, bs, bx]
    exact ⟨a, b, fun b => by rw [c]⟩
  have h32 : S.1.length ≤ 32 := by
    have : 2 ^ need t (2 ^ t.length - 1) (2 ^ wid t - 1) ≤ 2 ^ 3 := Nat.pow_le_pow_right (by decide) hnd
    omega
  have hv : validB (btD t) t.length (wid t) = true := by
    unfold validB sizeB talkB lenB
    simp only [Bool.and_eq_true, inB_iff, beq_iff_eq, List.all_eq_true, List.mem_range]
    refine ⟨by omega, by omega, fun q hq => ?_⟩
    obtain ⟨s, hs⟩ : ∃ s, S.1[q]? = some s := ⟨S.1[q]'(by omega), by simp [show q < S.1.length by omega]⟩
    obtain ⟨a, b, c⟩ := hL q s hs
    obtain ⟨x, y, z⟩ := k3 S.1.length (by omega) q s hs
    rw [Nat.zero_add] at a b c z
    unfold stepB nextsB
    rw [a]
    unfold rowR at b
    rw [b]
    simp only [Bool.and_eq_true, List.all_eq_true, List.mem_range]
    exact ⟨x, y, fun b _ => by rw [c b, lp]; exact z b⟩
  have full : ∀ n i : Nat, i < n → (2 ^ n - 1).testBit i = true := fun n i hi => by rw [Nat.testBit_two_pow_sub_one]; exact decide_eq_true hi
  have hrun : ∀ i j, i < t.length → j < wid t → runE (btD t) i j = ent t i j ∧ (runL (btD t) i j).length ≤ need t (2 ^ t.length - 1) (2 ^ wid t - 1) := by
    intro i j hi hj
    have := hr hL (btD t).p.length (by omega) i j hi hj (full _ _ hi) (full _ _ hj)
    rw [z0] at this
    exact this
  have hsol : solvesT (btD t) t = true := by
    unfold solvesT okTS rowS
    simp only [Bool.and_eq_true, List.all_eq_true, List.mem_range, beq_iff_eq]
    exact ⟨⟨ht, hv⟩, fun i hi j hj => (hrun i j hi hj).1⟩
  refine ⟨hv, hsol, ?_, ?_, ?_, by omega, by omega⟩
  · have a := solves_low hsol
    have b : bitsT (btD t) t.length (wid t) ≤ needV t := by
      unfold needV bitsT
      rw [if_pos ht, if_pos hv]
      have := allM_up (r := btD t) (C := wid t) (d := need t (2 ^ t.length - 1) (2 ^ wid t - 1)) t.length fun i j hi hj => (hrun i j hi hj).2
      simp only [Int.toNat_natCast]
      omega
    omega
  · obtain ⟨a, -, -⟩ := stP_get _ _ _ hs0
    rw [bp, a, e1]
  · obtain ⟨-, a, -⟩ := stP_get _ _ _ hs0
    rw [bs, a, e2]
/-- a run says no more than all of them, and something -/
theorem run_law {r : TalkD} {rows cols i j : Int} (h : runB r rows cols i j = true) : validB r rows cols = true ∧ 1 ≤ (runSL r rows cols i j).length ∧ ((runSL r rows cols i j).length : Int) ≤ bitsT r rows cols := by
  have h0 := h
  unfold runB at h
  simp only [Bool.and_eq_true, inB_iff] at h
  obtain ⟨hv, hi, hj⟩ := h
  obtain ⟨n1, -⟩ := valid_step hv
  rw [(run_yes h0).1]
  refine ⟨hv, ?_, ?_⟩
  · unfold runL
    obtain ⟨f, hf⟩ : ∃ f, r.p.length = f + 1 := ⟨r.p.length - 1, by omega⟩
    rw [hf]
    have := runF_pos r i.toNat j.toNat f 0
    rw [show ((0 : Nat) : Int) = 0 from rfl] at this
    rw [this]; simp
  · unfold bitsT
    rw [if_pos hv]
    have := allM_down (r := r) (C := cols.toNat) rows.toNat i.toNat j.toNat (by omega) (by omega)
    omega
end Go.Proofs.Ytpieaeokbblflaa
