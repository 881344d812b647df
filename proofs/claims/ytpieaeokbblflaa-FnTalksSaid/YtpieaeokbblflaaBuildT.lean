/- BestTalk of the reference; conditions: none. -/
import Derived.Test.YtpieaeokbblflaaBuildS
import Derived.Test.YtpieaeokbblflaaFreeJ
namespace Go.Proofs.Ytpieaeokbblflaa
open Go.RowKit

/-- the best talk, reckoned -/
def btD (t : List (List Int)) : TalkD := if mixB t then addS ⟨[], [], []⟩ (stepsF t (2 ^ t.length - 1 + (2 ^ wid t - 1)) (2 ^ t.length - 1) (2 ^ wid t - 1) 0).1 else ⟨[], [], []⟩
theorem stepsF_says {t : List (List Int)} (hn : t.length ≤ 4) (hm : wid t ≤ 4) : ∀ f R C pos, ∀ x ∈ stS (stepsF t f R C pos).1, x.length ≤ 4
  | 0, R, C, pos => by simp [stepsF, stS]
  | f + 1, R, C, pos => by
    have h := stepsF_says hn hm f
    unfold stepsF
    split
    · simp [stS]
    · split
      · intro x hx
        simp only [stS, List.map_cons, List.map_append, List.mem_cons, List.mem_append] at hx
        rcases hx with rfl | hx | hx
        · rw [bitsL_len]; exact hn
        · exact h _ _ _ x hx
        · exact h _ _ _ x hx
      · intro x hx
        simp only [stS, List.map_cons, List.map_append, List.mem_cons, List.mem_append] at hx
        rcases hx with rfl | hx | hx
        · rw [bitsL_len]; exact hm
        · exact h _ _ _ x hx
        · exact h _ _ _ x hx
theorem btD_tot {t : List (List Int)} (ht : taskB t = true) : (btD t).s.length + totR (btD t).s ≤ 1099511627776 := by
  obtain ⟨hn, hm, -, -⟩ := taskB_yes ht
  have hf1 := full_lt hn
  have hf2 := full_lt hm
  unfold btD
  split
  · have hl := stepsF_len t (2 ^ t.length - 1 + (2 ^ wid t - 1)) (2 ^ t.length - 1) (2 ^ wid t - 1) 0
    have hb := stepsF_says hn.2 hm.2 (2 ^ t.length - 1 + (2 ^ wid t - 1)) (2 ^ t.length - 1) (2 ^ wid t - 1) 0
    have hp : 2 ^ (2 ^ t.length - 1 + (2 ^ wid t - 1)) ≤ 2 ^ 30 := Nat.pow_le_pow_right (by decide) (by omega)
    have key : ∀ l : List (List Int), (∀ r ∈ l, r.length ≤ 4) → totR l ≤ l.length * 4 := by
      intro l hl
      induction l with
      | nil => simp [totR]
      | cons r rs ih =>
        have a := hl r (by simp)
        have b := ih fun x hx => hl x (by simp [hx])
        simp only [totR, List.map_cons, List.sum_cons, List.length_cons] at b ⊢
        omega
    have k := key _ hb
    simp only [addS, List.nil_append]
    have e : (stS (stepsF t (2 ^ t.length - 1 + (2 ^ wid t - 1)) (2 ^ t.length - 1) (2 ^ wid t - 1) 0).1).length = (stepsF t (2 ^ t.length - 1 + (2 ^ wid t - 1)) (2 ^ t.length - 1) (2 ^ wid t - 1) 0).1.length := by simp [stS]
    omega
  · simp [totR]
theorem OwnT3.toT {w : World} {B : Nat} {F : Nat → Prop} {v1 v2 v3 : Value} {r : TalkD} (h : OwnT3 w B F v1 v2 v3 r) (ht : r.s.length + totR r.s ≤ 1099511627776) : OwnT w B F (.agg #[v1, v2, v3]) r := by
  obtain ⟨F1, F2, F3, h1, h2, h3, i1, i2, i3, d⟩ := h
  exact ⟨v1, v2, v3, rfl, F1, F2, F3, h1, ⟨h2, ht⟩, h3, i1, i2, i3, d⟩

theorem prE (w : World) (B : Nat) (hB : B ≤ w.heap.size) : OwnPr (w.alloc (.cells #[] 76)) B (.slice (some ⟨w.heap.size, 0, none⟩) 0 0) [] :=
  ⟨by simpa [flat] using World.ownsRow_made w #[] 0 hB (Nat.zero_le _) (by simp), by simp⟩
theorem prN (w : World) (B : Nat) : OwnPr w B (.slice none 0 0) [] := ⟨by simpa [flat] using World.ownsRow_nil w B 76 2, by simp⟩

/-- the law of the region in which the talk is built: values that are known; then the needs; then the talk -/
def JBT (t : List (List Int)) (B : Nat) (w0 : World) (bx : Nat) (F : Nat → Prop) (vs : List (Option Value)) (r : TalkD) (z : Int) (L : Nat → Bool) (u : Nat → Value) (w : World) : Prop :=
  (∀ j x, L j = true → vs.getD j none = some x → u j = x) ∧
  ((L 14 = false ∧ Below w0.heap.size w0 w ∧ (L 2 = true → OwnR w w0.heap.size (fun k => w0.heap.size ≤ k ∧ k < w.heap.size) (u 2) (mapR (rowN t) (2 ^ t.length)))) ∨
   (L 14 = true ∧ L 2 = true ∧ KeptOff (fun k => F k ∨ k = bx) w0 w ∧ ∃ a1 k1 a2 k2 a3 k3, u 14 = .tuple #[.agg #[.slice a1 r.p.length k1, .slice a2 r.s.length k2, .slice a3 r.x.length k3], .int .i64 z] ∧
      OwnT3 w B (fun k => F k ∨ (w0.heap.size ≤ k ∧ k < w.heap.size)) (.slice a1 r.p.length k1) (.slice a2 r.s.length k2) (.slice a3 r.x.length k3) r ∧ (L 15 = true → u 15 = u 14) ∧ (L 16 = true → u 16 = .agg #[.slice a1 r.p.length k1, .slice a2 r.s.length k2, .slice a3 r.x.length k3]) ∧
      ∃ y1 y2 y3, w.heap[bx]? = some (.cells #[y1, y2, y3] 38 (0, 0)) ∧ (L 18 = true → y1 = .slice a1 r.p.length k1 ∧ y2 = .slice a2 r.s.length k2 ∧ y3 = .slice a3 r.x.length k3)))
/-- an operation whose value is known and that changes nothing -/
theorem JBT.step {t : List (List Int)} {B : Nat} {w0 : World} {bx : Nat} {F : Nat → Prop} {vs : List (Option Value)} {r : TalkD} {z : Int} {L : Nat → Bool} {u : Nat → Value} {w : World} (h : JBT t B w0 bx F vs r z L u w) (i : Nat) (x : Value)
    (hi : i ≠ 2 ∧ i ≠ 14 ∧ i ≠ 15 ∧ i ≠ 16 ∧ i ≠ 18) (hx : ∀ y, vs.getD i none = some y → y = x) : JBT t B w0 bx F vs r z (setL L i) (upd u i x) w := by
  have hL : ∀ j, j ≠ i → setL L i j = L j := fun j hj => by simp [setL, hj]
  have hu : ∀ j, j ≠ i → upd u i x j = u j := fun j hj => by simp [upd, hj]
  obtain ⟨h1, h2⟩ := h
  refine ⟨fun j y hj hy => ?_, ?_⟩
  · by_cases e : j = i
    · subst e; rw [hx y hy]; simp [upd]
    · rw [hu j e]; exact h1 j y (by rw [hL j e] at hj; exact hj) hy
  · rw [hL 14 (Ne.symm hi.2.1), hL 2 (Ne.symm hi.1), hL 15 (Ne.symm hi.2.2.1), hL 16 (Ne.symm hi.2.2.2.1), hL 18 (Ne.symm hi.2.2.2.2), hu 2 (Ne.symm hi.1), hu 14 (Ne.symm hi.2.1), hu 15 (Ne.symm hi.2.2.1), hu 16 (Ne.symm hi.2.2.2.1)]
    exact h2

theorem JBT.bel {t : List (List Int)} {B : Nat} {w0 : World} {bx : Nat} {F : Nat → Prop} {vs : List (Option Value)} {r : TalkD} {z : Int} {L : Nat → Bool} {u : Nat → Value} {w : World} (h : JBT t B w0 bx F vs r z L u w) {C : Nat} (hC : C ≤ w0.heap.size)
    (hF : ∀ k, F k → C ≤ k) (hb : C ≤ bx) : Below C w0 w := by
  rcases h.2 with ⟨-, h, -⟩ | ⟨-, -, h, -⟩
  · exact h.mono hC
  · exact h.below (fun k f => by rcases f with f | f; exact hF k f; omega) hC

theorem JBT.needs {t : List (List Int)} {B : Nat} {w0 : World} {bx : Nat} {F : Nat → Prop} {vs : List (Option Value)} {r : TalkD} {z : Int} {L : Nat → Bool} {u : Nat → Value} {w wn : World} {v : Value} (h : JBT t B w0 bx F vs r z L u w) (hi : L 2 = false)
    (hv : OwnR wn w.heap.size (fun k => w.heap.size ≤ k ∧ k < wn.heap.size) v (mapR (rowN t) (2 ^ t.length))) (hb : Below w.heap.size w wn) (hvs : vs.getD 2 none = none) : JBT t B w0 bx F vs r z (setL L 2) (upd u 2 v) wn := by
  obtain ⟨h1, h2⟩ := h
  refine ⟨fun j y hj hy => ?_, ?_⟩
  · by_cases e : j = 2
    · subst e; rw [hvs] at hy; cases hy
    · have : upd u 2 v j = u j := by simp [upd, e]
      rw [this]
      exact h1 j y (by simpa [setL, e] using hj) hy
  · rcases h2 with ⟨a, b, -⟩ | ⟨-, c, -⟩
    · refine .inl ⟨by simpa [setL] using a, b.trans (hb.mono b.size), fun _ => ?_⟩
      have e : upd u 2 v 2 = v := by simp [upd]
      rw [e]
      have := b.size
      exact hv.mono this fun k hk => ⟨by omega, hk.2⟩
    · rw [c] at hi; cases hi
theorem JBT.built {t : List (List Int)} {B : Nat} {w0 : World} {bx : Nat} {F : Nat → Prop} {vs : List (Option Value)} {r : TalkD} {z : Int} {L : Nat → Bool} {u : Nat → Value} {w wn : World} {a1 a2 a3 : Option Addr} {k1 k2 k3 : Nat} (h : JBT t B w0 bx F vs r z L u w) (hi : L 14 = false) (h2 : L 2 = true)
    (hT : OwnT3 wn B (fun k => F k ∨ (w.heap.size ≤ k ∧ k < wn.heap.size)) (.slice a1 r.p.length k1) (.slice a2 r.s.length k2) (.slice a3 r.x.length k3) r) (hk : KeptOff F w wn) (hvs : vs.getD 14 none = none) (hL15 : L 15 = false) (hL16 : L 16 = false) (hL18 : L 18 = false)
    {y1 y2 y3 : Value} (hbx : w0.heap[bx]? = some (.cells #[y1, y2, y3] 38 (0, 0))) (hFb : ¬ F bx) :
    JBT t B w0 bx F vs r z (setL L 14) (upd u 14 (.tuple #[.agg #[.slice a1 r.p.length k1, .slice a2 r.s.length k2, .slice a3 r.x.length k3], .int .i64 z])) wn := by
  obtain ⟨h1, h2'⟩ := h
  refine ⟨fun j y hj hy => ?_, ?_⟩
  · by_cases e : j = 14
    · subst e; rw [hvs] at hy; cases hy
    · rw [show upd u 14 _ j = u j by simp [upd, e]]
      exact h1 j y (by simpa [setL, e] using hj) hy
  · rcases h2' with ⟨a, b, -⟩ | ⟨c, -⟩
    · have hlt := (Array.getElem?_eq_some_iff.1 hbx).1
      have hsz := b.size
      refine .inr ⟨by simp [setL], by simpa [setL] using h2, ((kept0 b).mono fun _ f => f.elim).trans (hk.mono fun k f => .inl f), a1, k1, a2, k2, a3, k3, by simp [upd], hT.mono fun k f => ?_, fun e => ?_, fun e => ?_, y1, y2, y3, (hk.block bx (by omega) hFb).trans (blk_later b hbx), fun e => ?_⟩
      · rcases f with f | f
        · exact .inl f
        · exact .inr ⟨by omega, f.2⟩
      · simp [setL, hL15] at e
      · simp [setL, hL16] at e
      · simp [setL, hL18] at e
    · rw [c] at hi; cases hi
theorem JBT.moved {t : List (List Int)} {B : Nat} {w0 : World} {bx : Nat} {F : Nat → Prop} {vs : List (Option Value)} {r : TalkD} {z : Int} {L : Nat → Bool} {u : Nat → Value} {w : World} (h : JBT t B w0 bx F vs r z L u w) (h14 : L 14 = true) (hvs : vs.getD 15 none = none) (hL16 : L 16 = false) :
    JBT t B w0 bx F vs r z (setL L 15) (upd u 15 (u 14)) w := by
  obtain ⟨h1, h2⟩ := h
  refine ⟨fun j y hj hy => ?_, ?_⟩
  · by_cases e : j = 15
    · subst e; rw [hvs] at hy; cases hy
    · rw [show upd u 15 _ j = u j by simp [upd, e]]
      exact h1 j y (by simpa [setL, e] using hj) hy
  · rcases h2 with ⟨a, -⟩ | ⟨c, d, e, a1, k1, a2, k2, a3, k3, f, g, -, i, j⟩
    · rw [a] at h14; cases h14
    · refine .inr ⟨by simpa [setL] using c, by simpa [setL] using d, e, a1, k1, a2, k2, a3, k3, by simpa [upd] using f, g, fun _ => by simp [upd], fun q => ?_, by simpa [setL] using j⟩
      simp [setL, hL16] at q
theorem JBT.taken {t : List (List Int)} {B : Nat} {w0 : World} {bx : Nat} {F : Nat → Prop} {vs : List (Option Value)} {r : TalkD} {z : Int} {L : Nat → Bool} {u : Nat → Value} {w : World} (h : JBT t B w0 bx F vs r z L u w) (h14 : L 14 = true) (hvs : vs.getD 16 none = none) {x y : Value} (hx : u 14 = .tuple #[x, y]) :
    JBT t B w0 bx F vs r z (setL L 16) (upd u 16 x) w := by
  obtain ⟨h1, h2⟩ := h
  refine ⟨fun j y hj hy => ?_, ?_⟩
  · by_cases e : j = 16
    · subst e; rw [hvs] at hy; cases hy
    · rw [show upd u 16 _ j = u j by simp [upd, e]]
      exact h1 j y (by simpa [setL, e] using hj) hy
  · rcases h2 with ⟨a, -⟩ | ⟨c, d, e, a1, k1, a2, k2, a3, k3, f, g, g2, i, j⟩
    · rw [a] at h14; cases h14
    · have hxx := hx.symm.trans f
      simp only [Value.tuple.injEq, Array.mk.injEq, List.cons.injEq, and_true] at hxx
      refine .inr ⟨by simpa [setL] using c, by simpa [setL] using d, e, a1, k1, a2, k2, a3, k3, by simpa [upd] using f, g, by simpa [setL, upd] using g2, fun q => by simp [upd, hxx.1], by simpa [setL] using j⟩

set_option maxRecDepth 100000 in
set_option maxHeartbeats 8000000 in
theorem c_spec_BestTalk (v : Value) (t : List (List Int)) (w : World) (h : Rows2 w v t) :
    Calls Try.prog 23 #[v] w fun e w' => ∃ v', e = .returned (.tuple #[v', .bool (mixB t)]) ∧ OwnT w' w.heap.size (fun k => w.heap.size ≤ k ∧ k < w'.heap.size) v' (btD t) ∧ Below w.heap.size w w' := by
  obtain ⟨adt, capt, rfl, hlt⟩ := h.out
  have hA := (Below.refl w.heap.size w).alloc (Nat.le_refl _) (.cells #[.slice none 0 0, .slice none 0 0, .slice none 0 0] 38)
  have hbr : (w.alloc (.cells #[.slice none 0 0, .slice none 0 0, .slice none 0 0] 38)).heap[w.heap.size]? = some (.cells #[.slice none 0 0, .slice none 0 0, .slice none 0 0] 38 (0, 0)) := heap_alloc_at rfl
  cases hx : mixB t
  · have hN : Hid (btD t = ⟨[], [], []⟩) := Lib.hid (by simp [btD, hx])
    replace hx := Lib.hid hx
    go_enter Try.func23, Try.ntmps23
    go_wp2_with fail
    refine (c_l8Mixed _ t _ (h.below hA)).mono ?_
    rintro e w1 ⟨rfl, hb1⟩
    rw [hx.out]
    replace hbr := blk_later hb1 hbr
    have hB1 := hA.trans (hb1.mono (by simp))
    obtain ⟨⟨z0, z1, z2⟩, g0, g1, g2⟩ := blk3 hbr
    obtain ⟨sF, kF⟩ := talk_stored (v1 := .slice none 0 0) (v2 := .slice none 0 0) (v3 := .slice none 0 0) hbr
    go_wp2
    obtain ⟨⟨y0, y1, y2⟩, -⟩ := blk3 sF
    refine bodyPost_ret (v := .tuple #[.agg #[.slice none 0 0, .slice none 0 0, .slice none 0 0], .bool false]) (by simp [results, Try.results23, go_sem, y0, y1, y2]) rfl ⟨_, rfl, ?_, hB1.trans (kF.below (fun k f => by omega) hB1.size)⟩
    rw [hN.out]
    exact ⟨_, _, _, rfl, fun _ => False, fun _ => False, fun _ => False, ⟨own_nil _ _, by simp, fun g e => by cases e⟩, ⟨ownR_nil _ _ _, by simp [totR]⟩, ⟨prN _ _, fun g e => by cases e⟩, fun _ f => f.elim, fun _ f => f.elim, fun _ f => f.elim, fun _ f => f.elim, fun _ f => f.elim, fun _ f => f.elim⟩
  · obtain ⟨ht, hp⟩ := mix_yes hx
    obtain ⟨hn, hm, hrow, h01⟩ := taskB_yes ht
    obtain ⟨bl0, off0, a0, c0, rfl, hb0, hcell0, hi0⟩ := h.at0 (by omega)
    have hf1 := full_lt hn
    have hf2 := full_lt hm
    have htot := btD_tot ht
    have hN : Hid (btD t = addS ⟨[], [], []⟩ (stepsF t (2 ^ t.length - 1 + (2 ^ wid t - 1)) (2 ^ t.length - 1) (2 ^ wid t - 1) 0).1) := Lib.hid (by simp [btD, hx])
    obtain ⟨e1, u1, u2⟩ := shl_oneN t.length hn.2
    obtain ⟨e2, m1, m2⟩ := shl_oneN (wid t) hm.2
    obtain ⟨U, hU⟩ : ∃ z, z + 1 = 2 ^ t.length := ⟨2 ^ t.length - 1, by omega⟩
    obtain ⟨M, hM⟩ : ∃ z, z + 1 = 2 ^ wid t := ⟨2 ^ wid t - 1, by omega⟩
    rw [← hU] at e1 u1 u2 hf1 hN
    rw [← hM] at e2 m1 m2 hf2 hN
    simp only [Nat.add_sub_cancel] at hf1 hf2 hN
    have hU2 : U < 2 ^ t.length := by omega
    have hM2 : M < 2 ^ wid t := by omega
    have hwU : IntKind.i64.wrap (U : Int) = (U : Int) := wraps_i64 _ (by omega) (by omega)
    have hwM : IntKind.i64.wrap (M : Int) = (M : Int) := wraps_i64 _ (by omega) (by omega)
    replace hU := Lib.hid hU
    replace hM := Lib.hid hM
    replace hU2 := Lib.hid hU2
    replace hM2 := Lib.hid hM2
    replace htot := Lib.hid htot
    have hc := Lib.hid ht
    replace ht := Lib.hid ht
    replace hx := Lib.hid hx
    replace hp := Lib.hid hp
    clear hi0 h01 hrow
    go_enter Try.func23, Try.ntmps23
    go_wp2_with fail
    refine (c_l8Mixed _ t _ (h.below hA)).mono ?_
    rintro e w1 ⟨rfl, hb1⟩
    rw [hx.out]
    replace hbr := blk_later hb1 hbr
    have hB1 := hA.trans (hb1.mono (by simp))
    have hz1 := hb1.size
    go_wp2_with fail
    obtain ⟨q, hq⟩ : ∃ q, q = w1.heap.size := ⟨_, rfl⟩
    rw [← hq] at hz1 ⊢
    obtain ⟨wd, hwd⟩ : ∃ x, x = (((w1.alloc (.cells #[] 3)).alloc (.cells #[] 31)).alloc (.cells #[] 76)).alloc (.cells #[.slice (some ⟨q, 0, none⟩) 0 0, .slice (some ⟨q + 1, 0, none⟩) 0 0, .slice (some ⟨q + 1 + 1, 0, none⟩) 0 0] 38) := ⟨_, rfl⟩
    rw [← hwd]
    have hqw : w.heap.size < q := by simp at hz1; omega
    have hzd : wd.heap.size = q + 4 := by rw [hwd]; simp; omega
    have hB2 : Below w1.heap.size w1 wd := by rw [hwd]; exact ((((Below.refl _ _).alloc (Nat.le_refl _) _).alloc (by simp) _).alloc (by simp; omega) _).alloc (by simp; omega) _
    have hBd : Below w.heap.size w wd := hB1.trans (hB2.mono (by omega))
    have hbx : wd.heap[q + 3]? = some (.cells #[.slice (some ⟨q, 0, none⟩) 0 0, .slice (some ⟨q + 1, 0, none⟩) 0 0, .slice (some ⟨q + 1 + 1, 0, none⟩) 0 0] 38 (0, 0)) := by rw [hwd]; exact heap_alloc_at (by simp; omega)
    have hbrd := blk_later hB2 hbr
    have hT0 : OwnT3 wd w.heap.size (fun k => q ≤ k ∧ k < q + 3) (.slice (some ⟨q, 0, none⟩) 0 0) (.slice (some ⟨q + 1, 0, none⟩) 0 0) (.slice (some ⟨q + 1 + 1, 0, none⟩) 0 0) ⟨[], [], []⟩ := by
      have hqq := hq
      rw [hqq]
      have k1 := own_empty w1 w1.heap.size (Nat.le_refl _)
      have k2 := ownR_empty (w1.alloc (.cells #[] 3)) (w1.heap.size + 1) (by simp)
      have k3 := prE ((w1.alloc (.cells #[] 3)).alloc (.cells #[] 31)) (w1.heap.size + 1 + 1) (by simp)
      simp only [World.size_alloc] at k2 k3
      have n1 : Below (w1.alloc (.cells #[] 3)).heap.size (w1.alloc (.cells #[] 3)) wd := by
        rw [hwd]
        exact (((Below.refl _ _).alloc (Nat.le_refl _) _).alloc (by simp) _).alloc (by simp <;> omega) _
      have n2 : Below ((w1.alloc (.cells #[] 3)).alloc (.cells #[] 31)).heap.size ((w1.alloc (.cells #[] 3)).alloc (.cells #[] 31)) wd := by
        rw [hwd]
        exact ((Below.refl _ _).alloc (Nat.le_refl _) _).alloc (by simp) _
      have n3 : Below (((w1.alloc (.cells #[] 3)).alloc (.cells #[] 31)).alloc (.cells #[] 76)).heap.size (((w1.alloc (.cells #[] 3)).alloc (.cells #[] 31)).alloc (.cells #[] 76)) wd := by
        rw [hwd]
        exact (Below.refl _ _).alloc (Nat.le_refl _) _
      refine ⟨fun k => k = w1.heap.size, fun k => k = w1.heap.size + 1, fun k => k = w1.heap.size + 1 + 1, ⟨((k1.below n1).mono (by omega)), by simp, fun g e => by injection e with e; exact e.symm⟩, (k2.below n2).mono (show w.heap.size ≤ w1.heap.size + 1 by omega) (fun k f => by have f1 := f.1; have f2 := f.2; omega), ⟨OwnD.mono (OwnD.below k3 n3) (by omega), fun g e => by injection e with e; exact e.symm⟩, fun k f => by omega, fun k f => by omega, fun k f => by omega, fun k f g => by omega, fun k f g => by omega, fun k f g => by omega⟩
    replace hwd := Lib.hid hwd
    replace hq := Lib.hid hq
    have hq3 : q + 3 = q + 1 + 1 + 1 := rfl
    have hF : ∀ k, (q ≤ k ∧ k < q + 3) → w.heap.size ≤ k := fun k f => by omega
    refine wp_region_J (by kernel_rfl) [none, none, none, none, none, none, none, none, none, none, none, none, none, some 15, some 0, some 1, some 2, some 3, some 4, some 5, some 6, some 7, some 8, some 9, some 10, some 11, some 12, some 13, some 14, some 16, some 17] (by kernel_rfl) (by kernel_rfl)
      (JBT t w.heap.size wd (q + 3) (fun k => q ≤ k ∧ k < q + 3) [some (.slice (some ⟨bl0, off0, none⟩) t.length capt), some (.slice (some ⟨bl0, off0, none⟩) t.length capt), none, some (.slice (some ⟨bl0, off0, none⟩) t.length capt), some (.int .i64 (t.length : Int)), some (.int .i64 ((U : Int) + 1)), some (.int .i64 (U : Int)), some (.slice (some ⟨bl0, off0, none⟩) t.length capt), some (.pointer (some ⟨bl0, off0, none⟩)), some (.slice a0 (wid t) c0), some (.int .i64 (wid t : Int)), some (.int .i64 ((M : Int) + 1)), some (.int .i64 (M : Int)), some (.agg #[.slice (some ⟨q, 0, none⟩) 0 0, .slice (some ⟨q + 1, 0, none⟩) 0 0, .slice (some ⟨q + 1 + 1, 0, none⟩) 0 0])] (addS ⟨[], [], []⟩ (stepsF t (U + M) U M 0).1) (stepsF t (U + M) U M 0).2) ⟨fun j x h => (by cases h), .inl ⟨rfl, (Below.refl _ _).drew, fun h => (by cases h)⟩⟩ ?_ ?_
    · intro i o ho L u ww hJ hi hd hC
      have hBw := hBd.trans (hJ.bel (by omega) hF (by omega))
      have y0 := ((bcell hBw).1 _ _ hb0).trans hcell0
      have hbw : bl0 < ww.heap.size := by have := hBw.size; omega
      rcases i with _ | _ | _ | _ | _ | _ | _ | _ | _ | _ | _ | _ | _ | _ | _ | _ | _ | _ | _ | i
      all_goals try obtain rfl := Option.some.inj ho
      all_goals try simp only [putAll, fillL]
      · go_wp2
        exact ⟨_, rfl, hJ.step 0 _ (by decide) (fun y e => by injection e with e; exact e.symm)⟩
      · go_wp2
        exact ⟨_, rfl, hJ.step 1 _ (by decide) (fun y e => by injection e with e; exact e.symm)⟩
      · have e1 := hJ.1 1 _ (hd 1 (by decide)) rfl
        rw [e1]
        go_wp2_with fail
        refine (c_l8Needs _ t _ (h.below hBw) hc.out).mono ?_
        rintro e wn ⟨vn, rfl, hvn, hbn⟩
        have hN2 := Lib.hid (hJ.needs hi hvn hbn rfl)
        go_wp2
        exact ⟨_, by simp only [putAll, fillL, e1] <;> rfl, hN2.out⟩
      · go_wp2
        exact ⟨_, rfl, hJ.step 3 _ (by decide) (fun y e => by injection e with e; exact e.symm)⟩
      · have e3 := hJ.1 3 _ (hd 3 (by decide)) rfl
        rw [e3]
        go_wp2
        exact ⟨_, by simp only [putAll, fillL, e3] <;> rfl, hJ.step 4 _ (by decide) (fun y e => by injection e with e; exact e.symm)⟩
      · have e4 := hJ.1 4 _ (hd 4 (by decide)) rfl
        rw [e4]
        go_wp2
        exact ⟨_, by simp only [putAll, fillL, e4] <;> rfl, hJ.step 5 _ (by decide) (fun y e => by injection e with e; exact e.symm)⟩
      · have e5 := hJ.1 5 _ (hd 5 (by decide)) rfl
        rw [e5]
        go_wp2
        exact ⟨_, by simp only [putAll, fillL, e5] <;> rfl, hJ.step 6 _ (by decide) (fun y e => by injection e with e; exact e.symm)⟩
      · go_wp2
        exact ⟨_, rfl, hJ.step 7 _ (by decide) (fun y e => by injection e with e; exact e.symm)⟩
      · have e7 := hJ.1 7 _ (hd 7 (by decide)) rfl
        rw [e7]
        go_wp2
        exact ⟨_, by simp only [putAll, fillL, e7] <;> rfl, hJ.step 8 _ (by decide) (fun y e => by injection e with e; exact e.symm)⟩
      · have e8 := hJ.1 8 _ (hd 8 (by decide)) rfl
        rw [e8]
        go_wp2
        exact ⟨_, by simp only [putAll, fillL, e8] <;> rfl, hJ.step 9 _ (by decide) (fun y e => by injection e with e; exact e.symm)⟩
      · have e9 := hJ.1 9 _ (hd 9 (by decide)) rfl
        rw [e9]
        go_wp2
        exact ⟨_, by simp only [putAll, fillL, e9] <;> rfl, hJ.step 10 _ (by decide) (fun y e => by injection e with e; exact e.symm)⟩
      · have e10 := hJ.1 10 _ (hd 10 (by decide)) rfl
        rw [e10]
        go_wp2
        exact ⟨_, by simp only [putAll, fillL, e10] <;> rfl, hJ.step 11 _ (by decide) (fun y e => by injection e with e; exact e.symm)⟩
      · have e11 := hJ.1 11 _ (hd 11 (by decide)) rfl
        rw [e11]
        go_wp2
        exact ⟨_, by simp only [putAll, fillL, e11] <;> rfl, hJ.step 12 _ (by decide) (fun y e => by injection e with e; exact e.symm)⟩
      · have hbox : ww.heap[q + 3]? = some (.cells #[.slice (some ⟨q, 0, none⟩) 0 0, .slice (some ⟨q + 1, 0, none⟩) 0 0, .slice (some ⟨q + 1 + 1, 0, none⟩) 0 0] 38 (0, 0)) := by
          rcases hJ.2 with ⟨-, hb, -⟩ | ⟨h14, -⟩
          · exact blk_later hb hbx
          · have := hC 14 _ rfl h14 13 (by decide)
            rw [this] at hi; cases hi
        obtain ⟨⟨b0, b1, b2⟩, -⟩ := blk3 hbox
        rw [hq3] at b0 b1 b2
        go_wp2
        exact ⟨_, rfl, hJ.step 13 _ (by decide) (fun y e => by injection e with e; exact e.symm)⟩
      · have e0 := hJ.1 0 _ (hd 0 (by decide)) rfl
        have e6 := hJ.1 6 _ (hd 6 (by decide)) rfl
        have e12 := hJ.1 12 _ (hd 12 (by decide)) rfl
        have e13 := hJ.1 13 _ (hd 13 (by decide)) rfl
        have h2 := hd 2 (by decide)
        obtain ⟨hbA, hnd⟩ : Below wd.heap.size wd ww ∧ OwnR ww wd.heap.size (fun k => wd.heap.size ≤ k ∧ k < ww.heap.size) (u 2) (mapR (rowN t) (2 ^ t.length)) := by
          rcases hJ.2 with ⟨-, hb, hh⟩ | ⟨h14, -⟩
          · exact ⟨hb, hh h2⟩
          · rw [h14] at hi; cases hi
        have hl15 : L 15 = false := by
          cases hh : L 15
          · rfl
          · rw [hC 15 _ rfl hh 14 (by decide)] at hi; cases hi
        have hl16 : L 16 = false := by
          cases hh : L 16
          · rfl
          · rw [hC 15 _ rfl (hC 16 _ rfl hh 15 (by decide)) 14 (by decide)] at hi; cases hi
        have hl18 : L 18 = false := by
          cases hh : L 18
          · rfl
          · rw [hC 18 _ rfl hh 14 (by decide)] at hi; cases hi
        have hrd : ReadsB t (.slice (some ⟨bl0, off0, none⟩) t.length capt) (u 2) (fun k => k < w.heap.size ∨ (wd.heap.size ≤ k ∧ k < ww.heap.size)) ww :=
          ⟨fun k f => by have := hBw.size; omega, fun w' hk => ⟨h.below (hBw.trans (hk.below (fun k f => by omega) hBw.size)), (hnd.off hk fun k f g => g (.inr f)).rows⟩⟩
        have hTw := hT0.below hbA
        have hpw : 2 ^ (U + M) ≤ 2 ^ 30 := Nat.pow_le_pow_right (by decide) (by omega)
        have hcall := c_build hc.out (.slice (some ⟨bl0, off0, none⟩) t.length capt) (u 2) w.heap.size (fun k => k < w.heap.size ∨ (wd.heap.size ≤ k ∧ k < ww.heap.size)) (U + M) U M (Nat.le_refl _) hf1.1 hf2.1 hf1.2.1 hf2.2.1 hU2.out hM2.out ww _ _ _ _ (fun k => q ≤ k ∧ k < q + 3) 0 hrd hBw.size hTw (fun k f => by have := hbA.size; omega) (fun k f g => by omega) rfl rfl rfl (by omega)
        replace hpw := Lib.hid hpw
        rw [e0, e6, e12, e13]
        go_wp2_with fail
        refine hcall.mono ?_
        rintro e wn ⟨x1, x2, x3, rfl, hTn, hkn⟩
        obtain ⟨b1, c1, b2, c2, b3, c3, rfl, rfl, rfl⟩ := hTn.form
        have hN2 := Lib.hid (hJ.built hi h2 hTn hkn rfl hl15 hl16 hl18 hbx (by omega))
        go_wp2
        exact ⟨_, by simp only [putAll, fillL, e0, e6, e12, e13] <;> rfl, hN2.out⟩
      · have h14 := hd 14 (by decide)
        have hl16 : L 16 = false := by
          cases hh : L 16
          · rfl
          · rw [hC 16 _ rfl hh 15 (by decide)] at hi; cases hi
        have hN2 := Lib.hid (hJ.moved h14 rfl hl16)
        go_wp2
        exact ⟨_, rfl, hN2.out⟩
      · have h15 := hd 15 (by decide)
        have h14 := hC 15 _ rfl h15 14 (by decide)
        rcases id hJ.2 with ⟨a, -⟩ | ⟨-, -, -, b1, c1, b2, c2, b3, c3, f, -, g2, -⟩
        · rw [a] at h14; cases h14
        · have hN2 := Lib.hid (hJ.taken h14 rfl f)
          have e15 := (g2 h15).trans f
          rw [e15]
          go_wp2
          exact ⟨_, by simp only [putAll, fillL, e15, f] <;> rfl, hN2.out⟩
      · have h15 := hd 15 (by decide)
        have h14 := hC 15 _ rfl h15 14 (by decide)
        rcases id hJ.2 with ⟨a, -⟩ | ⟨-, -, -, b1, c1, b2, c2, b3, c3, f, -, g2, -⟩
        · rw [a] at h14; cases h14
        · have e15 := (g2 h15).trans f
          rw [e15]
          go_wp2
          exact ⟨_, by simp only [putAll, fillL, e15, f] <;> rfl, hJ.step 17 _ (by decide) (fun y e => by cases e)⟩
      · have h16 := hd 16 (by decide)
        have h14 := hC 15 _ rfl (hC 16 _ rfl h16 15 (by decide)) 14 (by decide)
        rcases id hJ.2 with ⟨a, -⟩ | ⟨-, h2, hkw, b1, c1, b2, c2, b3, c3, f, hTw, g2, g3, y1, y2, y3, hbox, -⟩
        · rw [a] at h14; cases h14
        · have e16 := g3 h16
          have hb3 : q + 3 < ww.heap.size := (Array.getElem?_eq_some_iff.1 hbox).1
          obtain ⟨sF, kF⟩ := talk_stored (v1 := .slice b1 (addS ⟨[], [], []⟩ (stepsF t (U + M) U M 0).1).p.length c1) (v2 := .slice b2 (addS ⟨[], [], []⟩ (stepsF t (U + M) U M 0).1).s.length c2) (v3 := .slice b3 (addS ⟨[], [], []⟩ (stepsF t (U + M) U M 0).1).x.length c3) hbox
          have hT2 := hTw.off kF (fun k f e => by rcases f with f | f <;> omega)
          have hK2 := hkw.trans (kF.mono (G := fun k => (q ≤ k ∧ k < q + 3) ∨ k = q + 3) fun k f => .inr f)
          obtain ⟨⟨b0', b1', b2'⟩, f0, f1, f2⟩ := blk3 hbox
          rw [hq3] at b0' b1' b2' f0 f1 f2 sF hT2 hK2
          have hJ1 := hJ.1
          have hN2 : Hid (JBT t w.heap.size wd (q + 3) (fun k => q ≤ k ∧ k < q + 3) [some (.slice (some ⟨bl0, off0, none⟩) t.length capt), some (.slice (some ⟨bl0, off0, none⟩) t.length capt), none, some (.slice (some ⟨bl0, off0, none⟩) t.length capt), some (.int .i64 (t.length : Int)), some (.int .i64 ((U : Int) + 1)), some (.int .i64 (U : Int)), some (.slice (some ⟨bl0, off0, none⟩) t.length capt), some (.pointer (some ⟨bl0, off0, none⟩)), some (.slice a0 (wid t) c0), some (.int .i64 (wid t : Int)), some (.int .i64 ((M : Int) + 1)), some (.int .i64 (M : Int)), some (.agg #[.slice (some ⟨q, 0, none⟩) 0 0, .slice (some ⟨q + 1, 0, none⟩) 0 0, .slice (some ⟨q + 1 + 1, 0, none⟩) 0 0])] (addS ⟨[], [], []⟩ (stepsF t (U + M) U M 0).1) (stepsF t (U + M) U M 0).2 (setL L 18) (upd u 18 undef) _) := Lib.hid ⟨fun j y hj hy => (by
            by_cases e : j = 18
            · subst e; cases hy
            · rw [show upd u 18 undef j = u j by simp [upd, e]]
              exact hJ1 j y (by simpa [setL, e] using hj) hy), .inr ⟨by simpa [setL] using h14, by simpa [setL] using h2, hK2, b1, c1, b2, c2, b3, c3, by simpa [upd] using f, hT2.mono (fun k f => by rcases f with f | f; exact .inl f; exact .inr (by simp only [World.size_setCell]; omega)), by simpa [setL, upd] using g2, by simpa [setL, upd] using g3, _, _, _, sF, fun _ => ⟨rfl, rfl, rfl⟩⟩⟩
          rw [e16]
          go_wp2
          exact ⟨undef, by simp only [putAll, fillL, e16, f] <;> rfl, hN2.out⟩
      · simp at ho
    · intro L u ww hJ hall
      rcases hJ.2 with ⟨a, -⟩ | ⟨-, -, hkw, b1, c1, b2, c2, b3, c3, f, hTw, -, -, y1, y2, y3, hbox, h18⟩
      · rw [hall 14 (by decide)] at a; cases a
      · obtain ⟨rfl, rfl, rfl⟩ := h18 (hall 18 (by decide))
        have hBw := hBd.trans (hkw.below (B := w.heap.size) (fun k f => by rcases f with f | f <;> omega) (by omega))
        have hrw := (hkw.block w.heap.size (Array.getElem?_eq_some_iff.1 hbrd).1 (fun f => by rcases f with f | f <;> omega)).trans hbrd
        have hzw := hkw.size
        have htt := htot.out
        rw [hN.out] at htt
        obtain ⟨X, hX⟩ : ∃ X, X = addS ⟨[], [], []⟩ (stepsF t (U + M) U M 0).1 := ⟨_, rfl⟩
        have hNX : Hid (btD t = X) := Lib.hid (by rw [hN.out, hX])
        rw [← hX] at hTw htt hbox
        replace hX := Lib.hid hX
        obtain ⟨⟨x0, x1, x2⟩, -⟩ := blk3 hbox
        rw [hq3] at x0 x1 x2
        obtain ⟨⟨z0, z1, z2⟩, g0, g1, g2⟩ := blk3 hrw
        obtain ⟨sF, kF⟩ := talk_stored (v1 := .slice b1 X.p.length c1) (v2 := .slice b2 X.s.length c2) (v3 := .slice b3 X.x.length c3) hrw
        obtain ⟨⟨y0, y1, y2⟩, -⟩ := blk3 sF
        have hTF := (hTw.off kF (fun k f e => by rcases f with f | f <;> omega)).toT htt
        simp only [putAll, fillL]
        clear f hJ hall
        go_wp2
        refine bodyPost_ret (v := .tuple #[.agg #[.slice b1 X.p.length c1, .slice b2 X.s.length c2, .slice b3 X.x.length c3], .bool true]) (by simp [results, Try.results23, go_sem, y0, y1, y2]) rfl ⟨_, rfl, by rw [hNX.out]; exact hTF.mono (Nat.le_refl _) (fun k f => by rcases f with f | f <;> simp only [World.size_setCell] <;> omega), hBw.trans (kF.below (fun k f => by omega) hBw.size)⟩
end Go.Proofs.Ytpieaeokbblflaa
