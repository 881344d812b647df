/- What a talk says and what is known at its end: the reference's side; conditions: none. -/
import Derived.Test.YtpieaeokbblflaaTalkV
namespace Go.Proofs.Ytpieaeokbblflaa
open Go.RowKit

def rowR (r : TalkD) (k : Nat) : List Int := r.s.getD k []
def bitR (r : TalkD) (i j k : Nat) : Int := (rowR r k).getD (if spk r k = 0 then i else j) 0
def runF (r : TalkD) (i j : Nat) : Nat → Int → List Int × Int
  | 0, k => ([], k)
  | f + 1, k => if k < 0 then ([], k) else (bitR r i j k.toNat :: (runF r i j f (nxt r k.toNat (bitR r i j k.toNat).toNat)).1, (runF r i j f (nxt r k.toNat (bitR r i j k.toNat).toNat)).2)
def runL (r : TalkD) (i j : Nat) : List Int := (runF r i j r.p.length 0).1
def runE (r : TalkD) (i j : Nat) : Int := -1 - (runF r i j r.p.length 0).2
theorem runF_neg (r : TalkD) (i j f : Nat) (k : Int) (h : k < 0) : runF r i j f k = ([], k) := by
  cases f with
  | zero => rfl
  | succ f => simp [runF, h]
theorem runF_pos (r : TalkD) (i j f q : Nat) : runF r i j (f + 1) (q : Int) = (bitR r i j q :: (runF r i j f (nxt r q (bitR r i j q).toNat)).1, (runF r i j f (nxt r q (bitR r i j q).toNat)).2) := by
  have : ¬ (q : Int) < 0 := by omega
  simp [runF, this]
/-- how far a run has come: o has been said, the step k is next, f steps are left at most -/
def RunAt (r : TalkD) (i j f : Nat) (k : Int) (o : List Int) : Prop := (runF r i j r.p.length 0 = (o ++ (runF r i j f k).1, (runF r i j f k).2)) ∧ o.length + f = r.p.length ∧ (0 ≤ k → (r.p.length : Int) - k ≤ f) ∧ -2 ≤ k ∧ k < r.p.length
theorem runAt_zero {r : TalkD} (i j : Nat) (hn : 1 ≤ r.p.length) : RunAt r i j r.p.length 0 [] := ⟨by simp, by simp, by omega, by omega, by omega⟩
theorem runAt_end {r : TalkD} {i j f : Nat} {k : Int} {o : List Int} (h : RunAt r i j f k o) (hk : k < 0) : o = runL r i j ∧ -1 - k = runE r i j := by
  obtain ⟨h1, -⟩ := h
  rw [runF_neg _ _ _ _ _ hk] at h1
  unfold runL runE
  rw [h1]
  simp
theorem next_facts {n s : Nat} {nx : Int} (h : nextOk n s nx = true) : -2 ≤ nx ∧ nx ≤ (n : Int) - 1 ∧ (0 ≤ nx → (s : Int) < nx) := by
  unfold nextOk at h
  simp only [Bool.and_eq_true, inB_iff, Bool.not_eq_true', Bool.and_eq_false_iff, decide_eq_false_iff_not] at h
  refine ⟨h.1.1, h.1.2, fun h0 => ?_⟩
  rcases h.2 with h2 | h2
  · exact absurd h0 h2
  · omega
theorem valid_step {r : TalkD} {rows cols : Int} (h : validB r rows cols = true) : (1 ≤ r.p.length ∧ r.p.length ≤ 32) ∧ r.s.length = r.p.length ∧ r.x.length = r.p.length ∧
    ∀ q, q < r.p.length → (spk r q = 0 ∨ spk r q = 1) ∧ ((rowR r q).length : Int) = sideV rows cols (spk r q) ∧ (∀ x ∈ rowR r q, x = 0 ∨ x = 1) ∧ ∀ b, b < 2 → nextOk r.p.length q (nxt r q b) = true := by
  unfold validB talkB at h
  simp only [Bool.and_eq_true] at h
  obtain ⟨-, h1, h2⟩ := h
  obtain ⟨n32, hsl, hxl⟩ := lenB_yes h1
  refine ⟨n32, hsl, hxl, fun q hq => ?_⟩
  rw [List.all_eq_true] at h2
  have := h2 q (List.mem_range.2 hq)
  unfold stepB bitsB nextsB at this
  simp only [Bool.and_eq_true, inB_iff, beq_iff_eq, List.all_eq_true, List.mem_range] at this
  obtain ⟨s1, ⟨s2, s3⟩, s4⟩ := this
  exact ⟨by omega, s2, fun x hx => by have := s3 x hx; omega, s4⟩
theorem runAt_step {r : TalkD} {i j f q : Nat} {o : List Int} (h : RunAt r i j f (q : Int) o) (hx : nextOk r.p.length q (nxt r q (bitR r i j q).toNat) = true) :
    ∃ f', RunAt r i j f' (nxt r q (bitR r i j q).toNat) (o ++ [bitR r i j q]) := by
  obtain ⟨h1, h2, h3, h4, h5⟩ := h
  obtain ⟨n1, n2, n3⟩ := next_facts hx
  have h3' := h3 (by omega)
  obtain ⟨f', rfl⟩ : ∃ f', f = f' + 1 := ⟨f - 1, by omega⟩
  rw [runF_pos] at h1
  refine ⟨f', ?_, by simp; omega, fun h0 => ?_, n1, by omega⟩
  · rw [h1]; simp [List.append_assoc]
  · have := n3 h0; omega

/-- what a run needs of a talk -/
def RunOk (r : TalkD) (i j : Nat) : Prop := (1 ≤ r.p.length ∧ r.p.length ≤ 32) ∧ r.s.length = r.p.length ∧ r.x.length = r.p.length ∧
    ∀ q, q < r.p.length → (spk r q = 0 ∨ spk r q = 1) ∧ (spk r q = 0 → i < (rowR r q).length) ∧ (spk r q = 1 → j < (rowR r q).length) ∧ (∀ x ∈ rowR r q, x = 0 ∨ x = 1) ∧ ∀ b, b < 2 → nextOk r.p.length q (nxt r q b) = true
theorem runOk {r : TalkD} {rows cols : Int} {i j : Nat} (h : validB r rows cols = true) (hi : (i : Int) < rows) (hj : (j : Int) < cols) : RunOk r i j := by
  obtain ⟨h1, h2, h3, h4⟩ := valid_step h
  refine ⟨h1, h2, h3, fun q hq => ?_⟩
  obtain ⟨s1, s2, s3, s4⟩ := h4 q hq
  refine ⟨s1, fun e => ?_, fun e => ?_, s3, s4⟩
  · rw [e] at s2; simp [sideV] at s2; omega
  · rw [e] at s2; simp [sideV] at s2; omega

set_option maxRecDepth 100000 in
set_option maxHeartbeats 4000000 in
theorem c_l8Run (v : Value) (r : TalkD) (i j : Nat) (w : World) (h : TalkR w v r) (hok : RunOk r i j) :
    Calls Try.prog 108 #[v, .int .i64 i, .int .i64 j] w fun e w' => ∃ v', e = .returned (.tuple #[v', .int .i64 (runE r i j)]) ∧ OwnI w' w.heap.size v' (runL r i j) ∧ Below w.heap.size w w' := by
  obtain ⟨v1, v2, v3, rfl, hp, hs, hx⟩ := id h
  obtain ⟨a1, k1, rfl, l1, -⟩ := hp.out
  obtain ⟨a2, k2, rfl, l2⟩ := hs.out
  obtain ⟨a3, k3, rfl, l3⟩ := hx.out
  have hA := (Below.refl w.heap.size w).alloc (Nat.le_refl _) (.cells #[.slice a1 r.p.length k1, .slice a2 r.s.length k2, .slice a3 r.x.length k3] 38)
  have pB : (w.alloc (.cells #[.slice a1 r.p.length k1, .slice a2 r.s.length k2, .slice a3 r.x.length k3] 38)).heap[w.heap.size]? = some (.cells #[.slice a1 r.p.length k1, .slice a2 r.s.length k2, .slice a3 r.x.length k3] 38 (0, 0)) := heap_alloc_at rfl
  obtain ⟨n32, hsl, hxl, hR0⟩ := hok
  have hsl2 : r.s.length ≤ r.p.length ∧ r.p.length ≤ r.s.length := by omega
  have hxl2 : r.x.length ≤ r.p.length ∧ r.p.length ≤ r.x.length := by omega
  clear hsl hxl
  replace hR0 := Lib.hid hR0
  have hi0 := ix20
  have hi1 := ix21
  have hown0 := (by have h := own_empty (w.alloc (.cells #[.slice a1 r.p.length k1, .slice a2 r.s.length k2, .slice a3 r.x.length k3] 38)) (w.heap.size + 1) (by simp); simp only [World.size_alloc] at h; exact h : OwnI ((w.alloc (.cells #[.slice a1 r.p.length k1, .slice a2 r.s.length k2, .slice a3 r.x.length k3] 38)).alloc (.cells #[] 3)) (w.heap.size + 1) (.slice (some ⟨w.heap.size + 1, 0, none⟩) 0 0) [])
  go_enter Try.func108, Try.ntmps108
  go_wp2
  go_loopw [8, 9] (fun u x wr => ∃ (f : Nat) (k : Int) (o : List Int), x = .int .i64 k ∧ Hid (RunAt r i j f k o) ∧ OwnI wr (w.heap.size + 1) u o ∧ Below (w.heap.size + 1) (w.alloc (.cells #[.slice a1 r.p.length k1, .slice a2 r.s.length k2, .slice a3 r.x.length k3] 38)) wr) (fun _ x _ => if intOf x < 0 then 0 else (r.p.length + 1 - intOf x).toNat)
  case atStart => exact ⟨_, 0, [], rfl, Lib.hid (runAt_zero i j n32.1), hown0, (Below.refl _ _).alloc (by simp) _⟩
  case round =>
    clear hown0
    obtain ⟨f, k, o, rfl, hat, hown, hB⟩ := hrel
    have hall : Below w.heap.size w wr := hA.trans (hB.mono (by omega))
    have hsz := hB.size
    simp only [World.size_alloc] at hsz
    have pBw : wr.heap[w.heap.size]? = some (.cells #[.slice a1 r.p.length k1, .slice a2 r.s.length k2, .slice a3 r.x.length k3] 38 (0, 0)) := (hB.block _ (by omega)).trans pB
    obtain ⟨⟨z0, z1, z2⟩, -⟩ := blk3 pBw
    have hol : o.length ≤ r.p.length := by have := hat.out.2.1; omega
    have hk5 := hat.out.2.2.2
    by_cases hk0 : k < 0
    · obtain ⟨E1, E2⟩ := runAt_end hat.out hk0
      have hge : ¬ k ≥ 0 := by omega
      replace E1 := Lib.hid E1
      replace E2 := Lib.hid E2
      obtain ⟨ad5, c5, rfl, -, -⟩ := hown.ints.out
      go_wp2
      refine bodyPost_ret (v := .tuple #[.slice ad5 o.length c5, .int .i64 (-1 - k)]) (by simp [results, Try.results108, go_sem]) rfl ⟨_, by rw [E2.out], by rw [← E1.out]; exact hown.mono (by omega), hall⟩
    · obtain ⟨q, rfl⟩ := Int.eq_ofNat_of_zero_le (show 0 ≤ k by omega)
      have hq : q < r.p.length := by omega
      have hqs : q < r.s.length := by omega
      have hqx : q < r.x.length := by omega
      have hge : (q : Int) ≥ 0 := by omega
      clear hk0
      obtain ⟨b1, o1, rfl, hb1, c1⟩ := (hp.below hall).at q hq
      obtain ⟨b2, o2, ar, cr, rfl, hb2, c2, hir⟩ := (hs.below hall).at q hqs
      obtain ⟨b3, o3, rfl, hb3, c3, c3'⟩ := (hx.below hall).at q hqx
      have esp : Hid (spk r q = r.p[q]) := Lib.hid (by unfold spk; simp [List.getD, hq])
      have erow : Hid (rowR r q = r.s[q]) := Lib.hid (by unfold rowR; simp [List.getD, hqs])
      have enx : Hid (nxt r q 0 = r.x[q].1 ∧ nxt r q 1 = r.x[q].2) := Lib.hid (by unfold nxt pairN; simp [List.getD, hqx])
      have hR := hR0.out q hq
      rw [erow.out] at hR
      have hstep := fun b (hb : b < 2) (e : (bitR r i j q).toNat = b) => runAt_step hat.out (by rw [e]; exact hR.2.2.2.2 b hb)
      have hsp := hR.1
      rw [esp.out] at hsp
      rcases hsp with h1 | h1
      · have hrl : i < r.s[q].length := hR.2.1 (by rw [esp.out]; exact h1)
        obtain ⟨b4, o4, rfl, hb4, c4⟩ := hir.at i hrl
        have hv := hR.2.2.2.1 _ (List.getElem_mem hrl)
        have ebit : Hid (bitR r i j q = r.s[q][i]) := Lib.hid (by unfold bitR rowR; rw [esp.out, h1]; simp [List.getD, hqs, hrl])
        rw [h1] at c1
        rcases hv with hv | hv
        · skip
          rw [hv] at c4
          rw [hv] at ebit
          obtain ⟨f', hf'⟩ := hstep 0 (by omega) (by rw [ebit.out]; rfl)
          rw [ebit.out, show (0 : Int).toNat = 0 from rfl, enx.out.1] at hf'
          replace hf' := Lib.hid hf'
          have hm2 := next_facts (hR.2.2.2.2 0 (by omega))
          rw [enx.out.1] at hm2
          replace hR := Lib.hid hR
          replace hstep := Lib.hid hstep
          replace h1 := Lib.hid h1
          replace hv := Lib.hid hv
          go_wp2_with fail
          go_quiet (fail)
          all_goals go_wp2_with (at_builtin; refine wp_append_int _ _ rfl _ _ rfl (w.heap.size + 1) _ _ rfl (hown.below (below_drewN (Below.refl _ _) _)) rfl (by first | rfl | simp) (by omega) (by first | exact hsz | (simp; omega)) ?_; intro v' w2 hown2 _ hB2 _; have hB3 := (below_drewN hB _).trans hB2; have hall2 := hA.trans (hB3.mono (by omega)); have pB2 := (hB3.block w.heap.size (by omega)).trans pB; have hlw2 := (Array.getElem?_eq_some_iff.1 pB2).1; obtain ⟨⟨y0, y1, y2⟩, -⟩ := blk3 pB2; obtain ⟨_, _, e9, hb9, d3, d3'⟩ := (hx.below hall2).at q hqx; cases e9)
          go_roundw
          case rel => exact ⟨f', _, _, rfl, hf', hown2, hB3⟩
          case measure => (rw [intOf, intOf, if_neg (show ¬ (q : Int) < 0 by omega)]; split <;> omega)
        · skip
          rw [hv] at c4
          rw [hv] at ebit
          obtain ⟨f', hf'⟩ := hstep 1 (by omega) (by rw [ebit.out]; rfl)
          rw [ebit.out, show (1 : Int).toNat = 1 from rfl, enx.out.2] at hf'
          replace hf' := Lib.hid hf'
          have hm2 := next_facts (hR.2.2.2.2 1 (by omega))
          rw [enx.out.2] at hm2
          replace hR := Lib.hid hR
          replace hstep := Lib.hid hstep
          replace h1 := Lib.hid h1
          replace hv := Lib.hid hv
          go_wp2_with fail
          go_quiet (fail)
          all_goals go_wp2_with (at_builtin; refine wp_append_int _ _ rfl _ _ rfl (w.heap.size + 1) _ _ rfl (hown.below (below_drewN (Below.refl _ _) _)) rfl (by first | rfl | simp) (by omega) (by first | exact hsz | (simp; omega)) ?_; intro v' w2 hown2 _ hB2 _; have hB3 := (below_drewN hB _).trans hB2; have hall2 := hA.trans (hB3.mono (by omega)); have pB2 := (hB3.block w.heap.size (by omega)).trans pB; have hlw2 := (Array.getElem?_eq_some_iff.1 pB2).1; obtain ⟨⟨y0, y1, y2⟩, -⟩ := blk3 pB2; obtain ⟨_, _, e9, hb9, d3, d3'⟩ := (hx.below hall2).at q hqx; cases e9)
          go_roundw
          case rel => exact ⟨f', _, _, rfl, hf', hown2, hB3⟩
          case measure => (rw [intOf, intOf, if_neg (show ¬ (q : Int) < 0 by omega)]; split <;> omega)
      · have hrl : j < r.s[q].length := hR.2.2.1 (by rw [esp.out]; exact h1)
        obtain ⟨b4, o4, rfl, hb4, c4⟩ := hir.at j hrl
        have hv := hR.2.2.2.1 _ (List.getElem_mem hrl)
        have ebit : Hid (bitR r i j q = r.s[q][j]) := Lib.hid (by unfold bitR rowR; rw [esp.out, h1]; simp [List.getD, hqs, hrl])
        rw [h1] at c1
        rcases hv with hv | hv
        · skip
          rw [hv] at c4
          rw [hv] at ebit
          obtain ⟨f', hf'⟩ := hstep 0 (by omega) (by rw [ebit.out]; rfl)
          rw [ebit.out, show (0 : Int).toNat = 0 from rfl, enx.out.1] at hf'
          replace hf' := Lib.hid hf'
          have hm2 := next_facts (hR.2.2.2.2 0 (by omega))
          rw [enx.out.1] at hm2
          replace hR := Lib.hid hR
          replace hstep := Lib.hid hstep
          replace h1 := Lib.hid h1
          replace hv := Lib.hid hv
          go_wp2_with fail
          go_quiet (fail)
          all_goals go_wp2_with (at_builtin; refine wp_append_int _ _ rfl _ _ rfl (w.heap.size + 1) _ _ rfl (hown.below (below_drewN (Below.refl _ _) _)) rfl (by first | rfl | simp) (by omega) (by first | exact hsz | (simp; omega)) ?_; intro v' w2 hown2 _ hB2 _; have hB3 := (below_drewN hB _).trans hB2; have hall2 := hA.trans (hB3.mono (by omega)); have pB2 := (hB3.block w.heap.size (by omega)).trans pB; have hlw2 := (Array.getElem?_eq_some_iff.1 pB2).1; obtain ⟨⟨y0, y1, y2⟩, -⟩ := blk3 pB2; obtain ⟨_, _, e9, hb9, d3, d3'⟩ := (hx.below hall2).at q hqx; cases e9)
          go_roundw
          case rel => exact ⟨f', _, _, rfl, hf', hown2, hB3⟩
          case measure => (rw [intOf, intOf, if_neg (show ¬ (q : Int) < 0 by omega)]; split <;> omega)
        · skip
          rw [hv] at c4
          rw [hv] at ebit
          obtain ⟨f', hf'⟩ := hstep 1 (by omega) (by rw [ebit.out]; rfl)
          rw [ebit.out, show (1 : Int).toNat = 1 from rfl, enx.out.2] at hf'
          replace hf' := Lib.hid hf'
          have hm2 := next_facts (hR.2.2.2.2 1 (by omega))
          rw [enx.out.2] at hm2
          replace hR := Lib.hid hR
          replace hstep := Lib.hid hstep
          replace h1 := Lib.hid h1
          replace hv := Lib.hid hv
          go_wp2_with fail
          go_quiet (fail)
          all_goals go_wp2_with (at_builtin; refine wp_append_int _ _ rfl _ _ rfl (w.heap.size + 1) _ _ rfl (hown.below (below_drewN (Below.refl _ _) _)) rfl (by first | rfl | simp) (by omega) (by first | exact hsz | (simp; omega)) ?_; intro v' w2 hown2 _ hB2 _; have hB3 := (below_drewN hB _).trans hB2; have hall2 := hA.trans (hB3.mono (by omega)); have pB2 := (hB3.block w.heap.size (by omega)).trans pB; have hlw2 := (Array.getElem?_eq_some_iff.1 pB2).1; obtain ⟨⟨y0, y1, y2⟩, -⟩ := blk3 pB2; obtain ⟨_, _, e9, hb9, d3, d3'⟩ := (hx.below hall2).at q hqx; cases e9)
          go_roundw
          case rel => exact ⟨f', _, _, rfl, hf', hown2, hB3⟩
          case measure => (rw [intOf, intOf, if_neg (show ¬ (q : Int) < 0 by omega)]; split <;> omega)
end Go.Proofs.Ytpieaeokbblflaa
