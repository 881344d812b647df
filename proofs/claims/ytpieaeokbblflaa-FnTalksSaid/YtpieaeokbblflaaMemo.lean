/- The plans of the program in memory: what the memo tells; conditions: none. -/
import Derived.Test.YtpieaeokbblflaaNeedT
import Derived.Test.YtpieaeokbblflaaFreeV
import Derived.Maps.OwnSet
import Derived.WideKeyPair
import Derived.DeepKeys4
namespace Go.Proofs.Ytpieaeokbblflaa
open Go.RowKit Go.Maps Go.WideMaps

theorem laidK : laidOutB Try.prog = true := by kernel_rfl
theorem rowK : (81 : TypeId) < Try.prog.types.size := of_decide_eq_true (by kernel_rfl)
theorem arrK : ArrKey Try.prog 81 3 2 := ⟨Try.underlying81, by kernel_rfl, by kernel_rfl, by kernel_rfl⟩
theorem wideK : (match Try.prog.underlying 81 with | some (.array _ _) | some (.struct _) => true | _ => false) = true := by rw [Try.underlying81]
set_option maxRecDepth 100000 in
theorem lawK : Keyed Try.prog 81 := Keyed.of_law (deep_law_laid laidK (m := 2) (by omega) rowK (by kernel_rfl) wideK)
theorem succ_of_lt {a b : Nat} (h : a < b) : ∃ m, b = m + 1 := ⟨b - 1, by omega⟩
theorem sizeK : ∃ m, Try.prog.types.size = m + 1 := succ_of_lt (a := 81) rowK

/-- the key of a rectangle -/
def kl (R C : Nat) : Lit := .string (keyBytes [.int .i64 (R : Int), .int .i64 (C : Int)])
theorem kl_key (R C : Nat) (hR : R < 4096) (hC : C < 4096) : keyOf Try.prog 81 (.agg #[.int .i64 (R : Int), .int .i64 (C : Int)]) = some (kl R C) :=
  keyOf_pair arrK Try.underlying3 sizeK (WalkArith.wf_i64 (by omega)) (WalkArith.wf_i64 (by omega))
theorem kl_inj {R C R' C' : Nat} (hR : R < 4096) (hC : C < 4096) (hR' : R' < 4096) (hC' : C' < 4096) (h : kl R C = kl R' C') : R = R' ∧ C = C' := by
  have e := lawK.inj (kl_key R C hR hC) (h ▸ kl_key R' C' hR' hC')
  simp only [Value.agg.injEq, Array.mk.injEq, List.cons.injEq, Value.int.injEq, true_and, and_true] at e
  omega
theorem kl_isKey (R C : Nat) : WideAt.IsKeyLit (kl R C) := trivial

theorem cnt_same {p q : Nat → Bool} (k : Nat) (h : ∀ i, i < k → p i = q i) : cntN p k = cntN q k := by
  induction k with
  | zero => rfl
  | succ k ih => simp only [cntN]; rw [ih fun i hi => h i (by omega), h k (by omega)]
theorem cnt_one {p q : Nat → Bool} {i0 : Nat} (h : ∀ i, i ≠ i0 → p i = q i) (hp : p i0 = false) (hq : q i0 = true) : ∀ k, i0 < k → cntN q k = cntN p k + 1
  | 0, h0 => by omega
  | k + 1, h0 => by
    simp only [cntN]
    by_cases e : i0 = k
    · subst e
      rw [hp, hq, cnt_same i0 fun i hi => (h i (by omega)).symm]
      rfl
    · rw [cnt_one h hp hq k (by omega), h k (fun e2 => e e2.symm)]
      omega

/-- what the memo says of a rectangle is its need; it knows no others -/
def MemoD (t : List (List Int)) (D : DataW Unit) : Prop :=
  (∀ R C, R < 16 → C < 16 → Maps.has D (kl R C) = true → D.atKey (kl R C) (.lit (.int .i64 0)) = .lit (.int .i64 (need t R C))) ∧ Maps.size D = cntN (fun q => Maps.has D (kl (q / 16) (q % 16))) 256
theorem memo_zero (t : List (List Int)) : MemoD t (.map []) := by
  refine ⟨fun R C _ _ h => (by cases h), ?_⟩
  have : ∀ k, cntN (fun q => Maps.has (H := Unit) (.map []) (kl (q / 16) (q % 16))) k = 0 := by
    intro k
    induction k with
    | zero => rfl
    | succ k ih => simp only [cntN]; rw [ih]; rfl
  rw [this]
  rfl
theorem memo_put {t : List (List Int)} {D : DataW Unit} (h : MemoD t D) (hT : Tidy D) (R C : Nat) (hR : R < 16) (hC : C < 16) : MemoD t (D.put (kl R C) (.lit (.int .i64 (need t R C)))) := by
  obtain ⟨h1, h2⟩ := h
  have hne : ∀ R' C', R' < 16 → C' < 16 → ¬ (R' = R ∧ C' = C) → kl R' C' ≠ kl R C := fun R' C' a b hn e => hn (kl_inj (by omega) (by omega) (by omega) (by omega) e)
  refine ⟨fun R' C' hR' hC' hh => ?_, ?_⟩
  · by_cases e : R' = R ∧ C' = C
    · obtain ⟨rfl, rfl⟩ := e
      exact atKey_put_same hT.isMap (kl_isKey _ _) _ _
    · rw [atKey_put_other (hne R' C' hR' hC' e)]
      rw [has_put_other (hne R' C' hR' hC' e)] at hh
      exact h1 R' C' hR' hC' hh
  · have hq : (16 * R + C) / 16 = R ∧ (16 * R + C) % 16 = C := by omega
    have hoth : ∀ i, i < 256 → i ≠ 16 * R + C → Maps.has (D.put (kl R C) (.lit (.int .i64 (need t R C)))) (kl (i / 16) (i % 16)) = Maps.has D (kl (i / 16) (i % 16)) := fun i hi hn => has_put_other (hne _ _ (by omega) (by omega) (fun e => hn (by omega))) _
    have hsame : Maps.has (D.put (kl R C) (.lit (.int .i64 (need t R C)))) (kl R C) = true := has_put_same hT.isMap (kl_isKey _ _) _
    rw [size_put hT, h2]
    cases hh : Maps.has D (kl R C)
    · have e1 : cntN (fun q => decide (q < 256) && Maps.has (D.put (kl R C) (.lit (.int .i64 (need t R C)))) (kl (q / 16) (q % 16))) 256 = cntN (fun q => decide (q < 256) && Maps.has D (kl (q / 16) (q % 16))) 256 + 1 := by
        refine cnt_one (i0 := 16 * R + C) (fun i hi => ?_) ?_ ?_ 256 (by omega)
        · by_cases hl : i < 256
          · rw [hoth i hl hi]
          · simp [hl]
        · rw [hq.1, hq.2, hh]; simp
        · rw [hq.1, hq.2, hsame]; simp; omega
      have e2 : ∀ (p : Nat → Bool), cntN (fun q => decide (q < 256) && p q) 256 = cntN p 256 := fun p => cnt_same 256 fun i hi => by simp [hi]
      rw [e2, e2] at e1
      rw [e1]
      rfl
    · simp only [if_true]
      refine cnt_same 256 fun i hi => ?_
      by_cases e : i = 16 * R + C
      · subst e
        rw [hq.1, hq.2, hh, hsame]
      · rw [hoth i hi e]
theorem memo_le {t : List (List Int)} {D : DataW Unit} (h : MemoD t D) : Maps.size D ≤ 256 := by
  rw [h.2]
  exact cntN_le _ _
/-- how many entries a map has is all that the bound says -/
theorem ownsMap_bound {H : Type} {P : Program} {k : TypeId} {R : Value → Option (DataW H × List MemPlace)} {w : World} {b n m : Nat} {D : DataW H} (h : w.ownsMap P k R b n D) (hm : Maps.size D ≤ m) : w.ownsMap P k R b m D := by
  obtain ⟨es, clock, hb, F, hs, rfl⟩ := h
  refine ⟨es, clock, hb, F, ?_, rfl⟩
  simpa [Maps.size, length_sorted] using hm

/-- the plans about a task, in blocks from B on; the task lies ahead of B -/
def TalkM (t : List (List Int)) (v : Value) (B gb mb : Nat) (w : World) : Prop :=
  w.heap[gb]? = some (.cells #[v, .map (some mb)] 125 (0, 0)) ∧ B ≤ gb ∧ B ≤ mb ∧ (∃ w0 : World, w0.heap.size = B ∧ Rows2 w0 v t ∧ Below B w0 w) ∧
    ∃ D, w.ownsMap Try.prog 81 (plainElem (H := Unit) Try.prog 3) mb 256 D ∧ MemoD t D
theorem TalkM.rows {t : List (List Int)} {v : Value} {B gb mb : Nat} {w : World} (h : TalkM t v B gb mb w) : Rows2 w v t := by
  obtain ⟨-, -, -, ⟨w0, rfl, hr, hb⟩, -⟩ := h
  exact hr.below hb
theorem TalkM.lt {t : List (List Int)} {v : Value} {B gb mb : Nat} {w : World} (h : TalkM t v B gb mb w) : gb < w.heap.size ∧ mb < w.heap.size ∧ gb ≠ mb ∧ B ≤ gb ∧ B ≤ mb := by
  obtain ⟨h1, h2, h3, -, D, hD, -⟩ := h
  refine ⟨(Array.getElem?_eq_some_iff.1 h1).1, hD.lt, ?_, h2, h3⟩
  rintro rfl
  obtain ⟨es, clock, hm, -⟩ := hD
  rw [h1] at hm
  cases hm
theorem TalkM.off {t : List (List Int)} {v : Value} {B gb mb : Nat} {w w' : World} {F : Nat → Prop} (h : TalkM t v B gb mb w) (hk : KeptOff F w w') (hF : ∀ k, F k → B ≤ k ∧ k ≠ gb ∧ k ≠ mb) : TalkM t v B gb mb w' := by
  obtain ⟨l1, l2, -, -, -⟩ := h.lt
  obtain ⟨h1, h2, h3, ⟨w0, hw, hr, hb⟩, D, ⟨es, clock, hm, r⟩, hD⟩ := h
  have := hb.size
  exact ⟨(hk.block gb l1 fun f => (hF _ f).2.1 rfl).trans h1, h2, h3, ⟨w0, hw, hr, hb.trans (hk.below (fun k f => (hF k f).1) (by omega))⟩, D, ⟨es, clock, (hk.block mb l2 fun f => (hF _ f).2.2 rfl).trans hm, r⟩, hD⟩
theorem TalkM.below {t : List (List Int)} {v : Value} {B gb mb : Nat} {w w' : World} (h : TalkM t v B gb mb w) (hb : Below w.heap.size w w') : TalkM t v B gb mb w' :=
  h.off (kept0 hb) fun _ f => f.elim
/-- the memo has been written -/
theorem TalkM.put {t : List (List Int)} {v : Value} {B gb mb : Nat} {w w' : World} (h : TalkM t v B gb mb w) (hg : w.grownBy w' (some mb)) {n : Nat} {D : DataW Unit} (hD : w'.ownsMap Try.prog 81 (plainElem (H := Unit) Try.prog 3) mb n D) (hM : MemoD t D) :
    TalkM t v B gb mb w' ∧ KeptOff (fun k => k = mb) w w' := by
  obtain ⟨l1, l2, l3, -, -⟩ := h.lt
  obtain ⟨h1, h2, h3, ⟨w0, hw, hr, hb⟩, -⟩ := h
  have hk : KeptOff (fun k => k = mb) w w' := ⟨hg.os, hg.tape, hg.output, hg.size, fun k hk hf => hg.block k hk fun e => hf (by injection e)⟩
  have := hb.size
  exact ⟨⟨(hk.block gb l1 fun f => l3 f).trans h1, h2, h3, ⟨w0, hw, hr, hb.trans (hk.below (fun k f => by omega) (by omega))⟩, D, ownsMap_bound hD (memo_le hM), hM⟩, hk⟩
end Go.Proofs.Ytpieaeokbblflaa
