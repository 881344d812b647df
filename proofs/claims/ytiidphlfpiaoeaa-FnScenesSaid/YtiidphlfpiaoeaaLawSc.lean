/- What the law on scenes says, reckoned; conditions: none. -/
import Derived.Test.YtiidphlfpiaoeaaLawSM
import Derived.Test.YtiidphlfpiaoeaaFind
import Derived.Test.YtiidphlfpiaoeaaMost
import Derived.Test.YtiidphlfpiaoeaaSRkI
import Derived.Test.YtiidphlfpiaoeaaIsPr
namespace Go.Proofs.Ytiidphlfpiaoeaa
open Go.RowKit

/-- a scene as equations -/
def sysX (s : SceneD) : List (Nat × Bool) := mapR (fun i => ((masksL s).getD i 0, s.s.getD i 0 == 1)) s.c.length
theorem sysX_mem {s : SceneD} {a : Nat} {b : Bool} : (a, b) ∈ sysX s ↔ ∃ i, i < s.c.length ∧ a = (masksL s).getD i 0 ∧ b = (s.s.getD i 0 == 1) := by
  unfold sysX mapR
  simp only [List.mem_map, List.mem_range]
  constructor
  · rintro ⟨i, hi, e⟩
    injection e with e1 e2
    exact ⟨i, hi, e1.symm, e2.symm⟩
  · rintro ⟨i, hi, rfl, rfl⟩; exact ⟨i, hi, rfl⟩
theorem sysX_fst (s : SceneD) : (sysX s).map Prod.fst = masksL s := by
  refine List.ext_getElem (by simp [sysX, mapR, masksL]) fun i h1 h2 => ?_
  rw [List.getElem_map]
  unfold sysX
  rw [mapR_get]
  simp [List.getD, h2]
theorem sum_at {s : SceneD} (hs : sceneB s = true) (i : Nat) : s.s.getD i 0 = 0 ∨ s.s.getD i 0 = 1 := by
  obtain ⟨-, hl, h01⟩ := scene_len hs
  by_cases h : i < s.s.length
  · have := h01 _ (List.getElem_mem h)
    rw [List.getD, List.getElem?_eq_getElem h]
    show s.s[i] = 0 ∨ s.s[i] = 1
    omega
  · rw [List.getD, List.getElem?_eq_none (by omega)]; exact .inl rfl
theorem kept_par {s : SceneD} (hs : sceneB s = true) (l : List Int) (hl : ∀ x ∈ l, x = 0 ∨ x = 1) (i : Nat) (hi : i < s.c.length) : keptAt s l i = (par ((masksL s).getD i 0) l == (s.s.getD i 0 == 1)) := by
  obtain ⟨h0, hr⟩ := scene_ctx hs i hi
  have e1 : (masksL s).getD i 0 = maskN s.c[i] 0 := by simp [masksL, List.getD, hi]
  have e2 : s.c.getD i [] = s.c[i] := by simp [List.getD, hi]
  rw [e1, par_mask s.c[i] 0 l (risB_nodup hr) (fun x hx => ⟨(risB_mem hr x hx).1, Nat.zero_testBit _⟩) hl, par_zero, Bool.false_xor]
  unfold keptAt
  rw [e2]
  have hv : onesE s.c[i] l = (s.c[i].map fun e : Int => l.getD e.toNat 0).sum := rfl
  rw [← hv]
  have hp : onesE s.c[i] l % 2 = 0 ∨ onesE s.c[i] l % 2 = 1 := by omega
  rcases hp with h | h <;> rcases sum_at hs i with g | g <;> rw [h, g] <;> rfl
theorem solves_sat {s : SceneD} (hs : sceneB s = true) (l : List Int) (hl : ∀ x ∈ l, x = 0 ∨ x = 1) : solvesB s l = satR (sysX s) l := by
  rw [Bool.eq_iff_iff, solvesB_iff, sat_iff]
  constructor
  · intro h a b hm
    obtain ⟨i, hi, rfl, rfl⟩ := sysX_mem.1 hm
    have := h i hi
    rw [kept_par hs l hl i hi] at this
    exact beq_iff_eq.1 this
  · intro h i hi
    rw [kept_par hs l hl i hi]
    exact beq_iff_eq.2 (h _ _ (sysX_mem.2 ⟨i, hi, rfl, rfl⟩))
theorem mask_ltn {s : SceneD} (hs : sceneB s = true) {n : Nat} (hn : s.n = (n : Int)) (i : Nat) (hi : i < s.c.length) : (masksL s).getD i 0 < 2 ^ n := by
  have h2 := (scene_ctx hs i hi).2
  have e1 : (masksL s).getD i 0 = maskN s.c[i] 0 := by simp [masksL, List.getD, hi]
  rw [e1]
  exact maskN_lt _ _ n (Nat.pow_pos (by decide)) fun q hq => by have := risB_mem h2 q hq; omega
theorem count_sat {s : SceneD} (hs : sceneB s = true) {n : Nat} (hn : s.n = (n : Int)) : countS solvesB s = CN (satR (sysX s)) n := by
  rw [countS_CN solvesB hs hn]
  exact CN_congr n fun l hl => solves_sat hs l hl.2
/-- a proof or as many solutions as the rank tells -/
theorem scene_alt {s : SceneD} (hs : sceneB s = true) {n : Nat} (hn : s.n = (n : Int)) :
    (SpanR (sysX s) 0 true ∧ countS solvesB s = 0) ∨ (countS solvesB s * 2 ^ rankS s = 2 ^ n ∧ ¬ SpanR (sysX s) 0 true) := by
  have hb := bas_alt (n := n) (X := sysX s) fun x hx => by
    obtain ⟨a, b⟩ := x
    obtain ⟨i, hi, rfl, -⟩ := sysX_mem.1 hx
    exact mask_ltn hs hn i hi
  rw [sysX_fst] at hb
  rw [count_sat hs hn]
  rcases hb with ⟨h1, h2⟩ | h
  · refine .inl ⟨h1, ?_⟩
    have : ∀ m, CN (fun _ => false) m = 0 := fun m => by
      induction m with
      | zero => rfl
      | succ m ih => simp [CN, ih]
    rw [show satR (sysX s) = fun _ => false from funext h2]
    exact this n
  · refine .inr ⟨h, fun hp => ?_⟩
    have hpos : 0 < CN (satR (sysX s)) n := by
      rcases Nat.eq_zero_or_pos (CN (satR (sysX s)) n) with e | e
      · rw [e, Nat.zero_mul] at h; have := Nat.pow_pos (n := n) (show 0 < 2 by decide); omega
      · exact e
    have hz : ∀ l, satR (sysX s) l = false := fun l => by
      cases e : satR (sysX s) l with
      | false => rfl
      | true => have := hp.sat e; rw [par_zero] at this; simp at this
    have : ∀ m, CN (fun _ => false) m = 0 := fun m => by
      induction m with
      | zero => rfl
      | succ m ih => simp [CN, ih]
    rw [show satR (sysX s) = fun _ => false from funext hz, this n] at hpos
    omega
theorem par_sum (x S : Int) (hx : x = 0 ∨ x = 1) : ((x + S) % 2 == 1) = ((x == 1) ^^ (S % 2 == 1)) := by
  rcases hx with h | h <;> subst h
  · rw [Int.zero_add]; simp
  · have : ((1 + S) % 2 == 1) = !(S % 2 == 1) := by
      rw [Bool.eq_iff_iff]
      simp only [beq_iff_eq, Bool.not_eq_true', beq_eq_false_iff_ne]
      omega
    rw [this]
    cases (S % 2 == 1) <;> rfl
theorem xor_span {s : SceneD} (hs : sceneB s = true) : ∀ (l : List Int) (a : Nat) (b : Bool), (∀ i ∈ l, 0 ≤ i ∧ i < s.c.length) → SpanR (sysX s) a b → SpanR (sysX s) (xorN s l a) (b ^^ (sumS s l % 2 == 1)) := by
  intro l
  induction l with
  | nil => intro a b _ h; simpa [xorN, sumS] using h
  | cons i l ih =>
    intro a b hl h
    have hi := hl i (by simp)
    have hm : SpanR (sysX s) ((masksL s).getD i.toNat 0) (s.s.getD i.toNat 0 == 1) := .of (sysX_mem.2 ⟨i.toNat, by omega, rfl, rfl⟩)
    have h2 := ih _ _ (fun j hj => hl j (by simp [hj])) (h.xor hm)
    show SpanR (sysX s) (xorN s l (a ^^^ (masksL s).getD i.toNat 0)) _
    have e : sumS s (i :: l) = s.s.getD i.toNat 0 + sumS s l := by simp [sumS]
    rw [e, par_sum _ _ (sum_at hs _), ← Bool.xor_assoc]
    exact h2
/-- who has a parity proof has no solution -/
theorem proof_span {s : SceneD} (hs : sceneB s = true) {l : List Int} (hl : ∀ i ∈ l, 0 ≤ i ∧ i < s.c.length) (h : proofB s l = true) : SpanR (sysX s) 0 true := by
  have h1 := xor_span hs l 0 false hl .zero
  unfold proofB at h
  simp only [Bool.and_eq_true] at h
  have e1 : xorN s l 0 = 0 := by have := beq_iff_eq.1 h.1; omega
  rw [e1, h.2] at h1
  exact h1
theorem bitAt_testL (e x : Nat) : (bitAt e x == 1) = x.testBit e := by
  rw [Nat.testBit_eq_decide_div_mod_eq]
  unfold bitAt
  rw [Bool.eq_iff_iff]
  simp only [beq_iff_eq, decide_eq_true_eq]
  omega
theorem bitAt_xor (code i k : Nat) : (bitAt k (code ^^^ 2 ^ i) == 1) = ((bitAt k code == 1) ^^ decide (i = k)) := by
  rw [bitAt_testL, bitAt_testL, Nat.testBit_xor, Nat.testBit_two_pow]
theorem comb_x (s : SceneD) (code k : Nat) : xorN s (placesL (fun i => bitAt i code == 1) (k + 1)) 0 = xorN s (placesL (fun i => bitAt i code == 1) k) 0 ^^^ if (bitAt k code == 1) = true then (masksL s).getD k 0 else 0 := by
  cases h : (bitAt k code == 1)
  · rw [placesL_no h]; simp
  · rw [placesL_yes h, xorN_snoc]; simp
theorem comb_s {s : SceneD} (hs : sceneB s = true) (code k : Nat) : (sumS s (placesL (fun i => bitAt i code == 1) (k + 1)) % 2 == 1) = ((sumS s (placesL (fun i => bitAt i code == 1) k) % 2 == 1) ^^ ((bitAt k code == 1) && (s.s.getD k 0 == 1))) := by
  cases h : (bitAt k code == 1)
  · rw [placesL_no h]; simp
  · rw [placesL_yes h, sumS_snoc, Int.add_comm, show ((k : Int)).toNat = k from rfl, par_sum _ _ (sum_at hs _), Bool.true_and, Bool.xor_comm]
theorem comb_flip {s : SceneD} (hs : sceneB s = true) (code i : Nat) : ∀ k,
    xorN s (placesL (fun j => bitAt j (code ^^^ 2 ^ i) == 1) k) 0 = (xorN s (placesL (fun j => bitAt j code == 1) k) 0 ^^^ if i < k then (masksL s).getD i 0 else 0) ∧
    (sumS s (placesL (fun j => bitAt j (code ^^^ 2 ^ i) == 1) k) % 2 == 1) = ((sumS s (placesL (fun j => bitAt j code == 1) k) % 2 == 1) ^^ (decide (i < k) && (s.s.getD i 0 == 1))) := by
  intro k
  induction k with
  | zero => simp [placesL]
  | succ k ih =>
    obtain ⟨h1, h2⟩ := ih
    rw [comb_x, comb_x, comb_s hs, comb_s hs, h1, h2, bitAt_xor]
    by_cases hik : i = k
    · subst hik
      have e1 : ¬ i < i := by omega
      have e2 : i < i + 1 := by omega
      simp only [e1, e2, if_true, if_false, decide_true, decide_false, Bool.false_and, Bool.xor_false, Bool.true_and, Nat.xor_zero]
      cases (bitAt i code == 1)
      · simp
      · simp [Nat.xor_assoc]
    · have e1 : (i < k + 1) ↔ i < k := by omega
      simp only [e1, decide_eq_false hik, Bool.xor_false]
      refine ⟨?_, ?_⟩
      · rw [Nat.xor_assoc, Nat.xor_assoc]; congr 1; exact Nat.xor_comm _ _
      · cases (sumS s (placesL (fun j => bitAt j code == 1) k) % 2 == 1) <;> cases (decide (i < k) && (s.s.getD i 0 == 1)) <;> cases ((bitAt k code == 1) && (s.s.getD k 0 == 1)) <;> rfl
theorem span_code {s : SceneD} (hs : sceneB s = true) {a : Nat} {b : Bool} (h : SpanR (sysX s) a b) :
    ∃ code, code < 2 ^ s.c.length ∧ xorN s (plL s code) 0 = a ∧ (sumS s (plL s code) % 2 == 1) = b := by
  induction h with
  | zero => exact ⟨0, Nat.pow_pos (by decide), by rw [plL_zero]; rfl, by rw [plL_zero]; rfl⟩
  | add hm _ ih =>
    obtain ⟨code, h1, h2, h3⟩ := ih
    obtain ⟨i, hi, rfl, rfl⟩ := sysX_mem.1 hm
    obtain ⟨e1, e2⟩ := comb_flip hs code i s.c.length
    refine ⟨code ^^^ 2 ^ i, Nat.xor_lt_two_pow h1 (Nat.pow_lt_pow_right (by decide) hi), ?_, ?_⟩
    · unfold plL at h2 ⊢
      rw [e1, h2, if_pos hi, Nat.xor_comm]
    · unfold plL at h3 ⊢
      rw [e2, h3, decide_eq_true hi, Bool.true_and, Bool.xor_comm]
theorem best_has (s : SceneD) : ∀ N, 0 < (bestP s N).length → proofB s (bestP s N) = true ∧ ∃ k, bestP s N = plL s k := by
  intro N
  induction N with
  | zero => intro h; simp [bestP] at h
  | succ N ih =>
    intro h
    cases hb : betterB s (plL s N) (bestP s N) with
    | true =>
      rw [bestP_yes hb]
      unfold betterB at hb
      simp only [Bool.and_eq_true] at hb
      exact ⟨hb.1, N, rfl⟩
    | false =>
      rw [bestP_no hb] at h ⊢
      exact ih h
theorem best_of (s : SceneD) (k : Nat) (hp : proofB s (plL s k) = true) : ∀ N, k < N → 0 < (bestP s N).length := by
  intro N
  induction N with
  | zero => intro h; omega
  | succ N ih =>
    intro h
    cases hb : betterB s (plL s N) (bestP s N) with
    | true =>
      rw [bestP_yes hb]
      unfold betterB at hb
      simp only [Bool.and_eq_true] at hb
      exact proof_pos hb.1
    | false =>
      rw [bestP_no hb]
      by_cases hk : k < N
      · exact ih hk
      · obtain rfl : k = N := by omega
        unfold betterB at hb
        rw [hp, Bool.true_and] at hb
        simp only [Bool.or_eq_false_iff, beq_eq_false_iff_ne] at hb
        have := hb.1
        omega
theorem places_ris (p : Nat → Bool) : ∀ m : Nat, risB 0 ((m : Int) - 1) (placesL p m) = true := by
  have key : ∀ m : Nat, (∀ i (h : i < (placesL p m).length), 0 ≤ (placesL p m)[i] ∧ (placesL p m)[i] < m) ∧ ∀ i j (h1 : i < j) (h2 : j < (placesL p m).length), (placesL p m)[i]'(by omega) < (placesL p m)[j] := by
    intro m
    have hsort : List.Pairwise (fun a b : Nat => a < b) ((List.range m).filter p) := List.Pairwise.filter p (List.pairwise_lt_range (n := m))
    have hg : ∀ i (h : i < (placesL p m).length), (placesL p m)[i] = ((((List.range m).filter p)[i]'(by simpa [placesL] using h) : Nat) : Int) := fun i h => by simp only [placesL, List.getElem_map]
    constructor
    · intro i h
      rw [hg i h]
      have hm := List.getElem_mem (l := (List.range m).filter p) (n := i) (by simpa [placesL] using h)
      have := List.mem_range.1 (List.mem_filter.1 hm).1
      omega
    · intro i j h1 h2
      have h3 : j < ((List.range m).filter p).length := by simpa [placesL] using h2
      have := List.pairwise_iff_getElem.1 hsort i j (by omega) h3 h1
      rw [hg i (by omega), hg j h2]
      omega
  intro m
  obtain ⟨k1, k2⟩ := key m
  unfold risB
  rw [List.all_eq_true]
  intro i hi
  have hi := List.mem_range.1 hi
  unfold risAt
  have e : (placesL p m).getD i 0 = (placesL p m)[i] := by simp [List.getD, hi]
  rw [e]
  have h1 := k1 i hi
  simp only [Bool.and_eq_true, inB_iff, Bool.not_eq_true', Bool.and_eq_false_iff, decide_eq_false_iff_not]
  refine ⟨by omega, ?_⟩
  by_cases h0 : 0 < i
  · right
    have e2 : (placesL p m).getD (i - 1) 0 = (placesL p m)[i - 1]'(by omega) := by simp [List.getD, show i - 1 < (placesL p m).length by omega]
    rw [e2]
    have := k2 (i - 1) i (by omega) hi
    omega
  · exact .inl h0
/-- proofs are found if there are any -/
theorem find_iff {s : SceneD} (hs : sceneB s = true) : (findB s = true ↔ SpanR (sysX s) 0 true) ∧ (findB s = true → isPrB s (findL s) = true) := by
  obtain ⟨e1, e2⟩ := find_yes hs
  rw [e1, e2]
  have hmem : ∀ k, ∀ i ∈ plL s k, 0 ≤ i ∧ i < (s.c.length : Int) := fun k => plL_mem s k
  refine ⟨⟨fun h => ?_, fun h => ?_⟩, fun h => ?_⟩
  · obtain ⟨h1, k, h2⟩ := best_has s _ (of_decide_eq_true h)
    rw [h2] at h1
    exact proof_span hs (hmem k) h1
  · obtain ⟨code, h1, h2, h3⟩ := span_code hs h
    exact decide_eq_true (best_of s code (by unfold proofB; rw [h2, h3]; rfl) _ h1)
  · obtain ⟨h1, k, h2⟩ := best_has s _ (of_decide_eq_true h)
    unfold isPrB
    rw [h1, Bool.and_true, h2]
    exact places_ris _ _
theorem any_count {s : SceneD} (hs : sceneB s = true) (p : SceneD → List Int → Bool) : anyS p s = decide (0 < countS p s) := by
  unfold anyS countS
  rw [hs, if_pos rfl, Bool.true_and]

/-- the sum of a number over all lists of bits -/
def SN (f : List Int → Nat) : Nat → Nat
  | 0 => f []
  | n + 1 => SN (fun l => f (0 :: l)) n + SN (fun l => f (1 :: l)) n
theorem SN_add (f g : List Int → Nat) : ∀ n, SN (fun l => f l + g l) n = SN f n + SN g n := by
  intro n
  induction n generalizing f g with
  | zero => rfl
  | succ n ih =>
    simp only [SN]
    have h0 := ih (fun l => f (0 :: l)) (fun l => g (0 :: l))
    have h1 := ih (fun l => f (1 :: l)) (fun l => g (1 :: l))
    omega
theorem SN_CN (p : List Int → Bool) : ∀ n, SN (fun l => if p l = true then 1 else 0) n = CN p n := by
  intro n
  induction n generalizing p with
  | zero => rfl
  | succ n ih =>
    simp only [SN, CN]
    rw [ih (fun l => p (0 :: l)), ih (fun l => p (1 :: l))]
theorem SN_zero : ∀ n, SN (fun _ => 0) n = 0
  | 0 => rfl
  | n + 1 => by simp only [SN, SN_zero n]
theorem SN_le (f : List Int → Nat) (M : Nat) : ∀ n, (∀ l, Bits n l → f l ≤ M) → SN f n ≤ M * 2 ^ n := by
  intro n
  induction n generalizing f with
  | zero => intro h; simp only [SN]; have := h [] ⟨rfl, by simp⟩; omega
  | succ n ih =>
    intro h
    simp only [SN]
    have h0 := ih (fun l => f (0 :: l)) fun l hl => h (0 :: l) ⟨by simp [hl.1], fun x hx => by rcases List.mem_cons.1 hx with e | e; exact .inl e; exact hl.2 x e⟩
    have h1 := ih (fun l => f (1 :: l)) fun l hl => h (1 :: l) ⟨by simp [hl.1], fun x hx => by rcases List.mem_cons.1 hx with e | e; exact .inr e; exact hl.2 x e⟩
    rw [Nat.pow_succ, ← Nat.mul_assoc]
    omega
theorem kept_half {s : SceneD} (hs : sceneB s = true) {n : Nat} (hn : s.n = (n : Int)) (i : Nat) (hi : i < s.c.length) : CN (fun l => keptAt s l i) n * 2 = 2 ^ n := by
  obtain ⟨h0, hr⟩ := scene_ctx hs i hi
  obtain ⟨x, hx⟩ : ∃ x, x ∈ s.c[i] := ⟨_, List.getElem_mem h0⟩
  have hxr := risB_mem hr x hx
  have e1 : (masksL s).getD i 0 = maskN s.c[i] 0 := by simp [masksL, List.getD, hi]
  have hb : ((masksL s).getD i 0).testBit x.toNat = true := by
    rw [e1, maskN_test _ _ _ fun e he => (risB_mem hr e he).1]
    have : s.c[i].contains ((x.toNat : Nat) : Int) = true := by
      rw [show ((x.toNat : Nat) : Int) = x by omega]
      simpa using hx
    simp [hx, show ((x.toNat : Nat) : Int) = x by omega]
  have hT : Tri n [(((masksL s).getD i 0, s.s.getD i 0 == 1), x.toNat)] := ⟨fun t ht => by
    have : t = (((masksL s).getD i 0, s.s.getD i 0 == 1), x.toNat) := by simpa using ht
    subst this
    exact ⟨by show x.toNat < n; omega, hb⟩, by simp⟩
  have hc := tri_count n _ hT
  rw [show ([(((masksL s).getD i 0, s.s.getD i 0 == 1), x.toNat)] : List ((Nat × Bool) × Nat)).length = 1 from rfl, Nat.pow_one] at hc
  rw [← hc]
  congr 1
  refine CN_congr n fun l hl => ?_
  rw [kept_par hs l hl.2 i hi]
  simp [satR]
theorem keptL_cnt (s : SceneD) (l : List Int) : ∀ k, (placesL (keptAt s l) k).length = cntN (keptAt s l) k := by
  intro k
  induction k with
  | zero => simp [placesL, cntN]
  | succ k ih =>
    cases h : keptAt s l k
    · rw [placesL_no h, cntN_no h, ih]
    · rw [placesL_yes h, cntN_yes h, List.length_append, ih]; rfl
theorem kept_sum {s : SceneD} (hs : sceneB s = true) {n : Nat} (hn : s.n = (n : Int)) : ∀ k, k ≤ s.c.length → SN (fun l => cntN (keptAt s l) k) n * 2 = k * 2 ^ n := by
  intro k
  induction k with
  | zero => intro _; simp only [cntN]; rw [SN_zero]; simp
  | succ k ih =>
    intro hk
    have e : (fun l => cntN (keptAt s l) (k + 1)) = fun l => cntN (keptAt s l) k + (if keptAt s l k = true then 1 else 0) := by
      funext l
      simp only [cntN]
    rw [e, SN_add, SN_CN (fun l => keptAt s l k), Nat.add_mul, ih (by omega), kept_half hs hn k (by omega), Nat.add_mul]
    omega
theorem bst_max (f : Nat → Nat) : ∀ k, bstN f k ≤ k ∧ ∀ j, j ≤ k → f j ≤ f (bstN f k) := by
  intro k
  induction k with
  | zero => exact ⟨Nat.le_refl _, fun j hj => by obtain rfl : j = 0 := (by omega); exact Nat.le_refl _⟩
  | succ k ih =>
    obtain ⟨h1, h2⟩ := ih
    simp only [bstN]
    split
    · rename_i h
      refine ⟨Nat.le_refl _, fun j hj => ?_⟩
      rcases Nat.lt_or_eq_of_le hj with h3 | h3
      · have := h2 j (by omega); omega
      · subst h3; exact Nat.le_refl _
    · rename_i h
      refine ⟨by omega, fun j hj => ?_⟩
      rcases Nat.lt_or_eq_of_le hj with h3 | h3
      · exact h2 j (by omega)
      · subst h3; omega
theorem asg_all (n : Nat) : ∀ l, Bits n l → ∃ c, c < 2 ^ n ∧ asgL n c = l := by
  induction n with
  | zero =>
    intro l h
    have : l = [] := List.length_eq_zero_iff.1 h.1
    subst this
    exact ⟨0, by simp, by simp [asgL, mapR]⟩
  | succ n ih =>
    intro l h
    cases l with
    | nil => exact absurd h.1 (by simp)
    | cons x l =>
      obtain ⟨c, h1, h2⟩ := ih l ⟨by have := h.1; simpa using this, fun y hy => h.2 y (by simp [hy])⟩
      have hp : 2 ^ (n + 1) = 2 ^ n + 2 ^ n := by rw [Nat.pow_succ]; omega
      rcases h.2 x (by simp) with e | e
      · subst e; exact ⟨c, by omega, by rw [asgL_low n c h1, h2]⟩
      · subst e; exact ⟨2 ^ n + c, by omega, by rw [asgL_high n c h1, h2]⟩
theorem cntN_pos {p : Nat → Bool} : ∀ {k i : Nat}, i < k → p i = true → 0 < cntN p k := by
  intro k
  induction k with
  | zero => intro i h; omega
  | succ k ih =>
    intro i h hp
    simp only [cntN]
    by_cases e : i < k
    · have := ih e hp; omega
    · obtain rfl : i = k := by omega
      rw [if_pos hp]; omega
/-- the most contexts that are kept: by an assignment, at least half; all of them only by a solution -/
theorem most_facts {s : SceneD} (hs : sceneB s = true) : ∃ M : Nat, mostS s = (M : Int) ∧ (sceneB s && asgB s (mostL s)) = true ∧ (keptL s (mostL s)).length = M ∧ s.c.length ≤ 2 * M ∧ M ≤ s.c.length ∧ (anyS solvesB s = true ↔ M = s.c.length) := by
  obtain ⟨n, hn, h12⟩ := scene_n hs
  obtain ⟨e1, e2, e3, e4⟩ := most_in hs hn
  have hN : 1 ≤ 2 ^ n := Nat.pow_pos (by decide)
  obtain ⟨b1, b2⟩ := bestA_is (keptF s) n (2 ^ n) hN
  obtain ⟨m1, m2⟩ := bst_max (keptF s) (2 ^ n - 1)
  rw [e1, e2, b1, b2]
  obtain ⟨c, hc⟩ : ∃ c, c = bstN (keptF s) (2 ^ n - 1) := ⟨_, rfl⟩
  rw [← hc] at m1 m2 ⊢
  have hb := asgL_bits n c
  refine ⟨keptF s c, rfl, ?_, (e3 c).symm, ?_, ?_, ?_⟩
  · rw [hs, Bool.true_and]
    unfold asgB bitsB
    simp only [Bool.and_eq_true, beq_iff_eq, List.all_eq_true, inB_iff]
    exact ⟨e4 c, fun x hx => by rcases hb.2 x hx with h | h <;> omega⟩
  · have h1 := kept_sum hs hn s.c.length (Nat.le_refl _)
    have h2 := SN_le (fun l => cntN (keptAt s l) s.c.length) (keptF s c) n fun l hl => by
      obtain ⟨d, hd, rfl⟩ := asg_all n l hl
      have := m2 d (by omega)
      rw [e3 d] at this
      unfold keptL at this
      rw [keptL_cnt] at this
      exact this
    have hp : 0 < 2 ^ n := hN
    refine Nat.le_of_mul_le_mul_right (c := 2 ^ n) ?_ hp
    have h3 : SN (fun l => cntN (keptAt s l) s.c.length) n * 2 ≤ keptF s c * 2 ^ n * 2 := Nat.mul_le_mul_right 2 h2
    rw [h1] at h3
    rw [Nat.mul_comm 2, Nat.mul_right_comm]
    exact h3
  · rw [e3 c]; exact placesL_len _ _
  · have hso : ∀ d, solvesB s (asgL n d) = decide (keptF s d = s.c.length) := fun d => by
      rw [e3 d]
      unfold solvesB
      rw [Bool.eq_iff_iff, beq_iff_eq, decide_eq_true_eq]
      omega
    have hnn : s.n.toNat = n := by rw [hn]; rfl
    unfold anyS
    rw [hs, Bool.true_and, decide_eq_true_eq, hnn]
    constructor
    · intro h
      obtain ⟨h1, h2⟩ := fstN_has _ _ h
      unfold atC at h1
      rw [hnn, hso] at h1
      have h3 := of_decide_eq_true h1
      have h4 := m2 (fstN (atC solvesB s) (2 ^ n)) (by unfold atC at h2 ⊢; omega)
      have h5 : keptF s c ≤ s.c.length := by rw [e3 c]; exact placesL_len _ _
      unfold atC at h4
      rw [hnn] at h4
      omega
    · intro h
      refine cntN_pos (i := c) (by omega) ?_
      unfold atC
      rw [hnn, hso]
      exact decide_eq_true h
/-- what the law says of the scene -/
theorem scene_facts {s : SceneD} (hs : sceneB s = true) : ∃ n e : Nat, ∃ r : Nat, s.n = (n : Int) ∧ n ≤ 12 ∧ rankV s = (r : Int) ∧
    ((anyS solvesB s = true ∧ findB s = false ∧ r ≤ n ∧ e = n - r ∧ countS solvesB s = 2 ^ e) ∨ (anyS solvesB s = false ∧ findB s = true ∧ countS solvesB s = 0)) := by
  obtain ⟨n, hn, h12⟩ := scene_n hs
  refine ⟨n, n - rankS s, rankS s, hn, h12, by unfold rankV; rw [if_pos hs], ?_⟩
  rcases scene_alt hs hn with ⟨h1, h2⟩ | ⟨h1, h2⟩
  · right
    exact ⟨by rw [any_count hs, h2]; rfl, (find_iff hs).1.2 h1, h2⟩
  · left
    have hpos : 0 < countS solvesB s := by
      rcases Nat.eq_zero_or_pos (countS solvesB s) with e | e
      · rw [e, Nat.zero_mul] at h1; have := Nat.pow_pos (n := n) (show 0 < 2 by decide); omega
      · exact e
    have hle : rankS s ≤ n := by
      rcases Nat.lt_or_ge n (rankS s) with h | h
      · have h3 : 2 ^ n < 2 ^ rankS s := Nat.pow_lt_pow_right (by decide) h
        have h4 := Nat.mul_le_mul_right (2 ^ rankS s) hpos
        rw [h1] at h4
        omega
      · exact h
    refine ⟨by rw [any_count hs]; exact decide_eq_true hpos, ?_, hle, rfl, ?_⟩
    · cases e : findB s with
      | false => rfl
      | true => exact absurd ((find_iff hs).1.1 e) h2
    · have h3 : 2 ^ n = 2 ^ (n - rankS s) * 2 ^ rankS s := by rw [← Nat.pow_add]; congr 1; omega
      rw [h3] at h1
      exact Nat.eq_of_mul_eq_mul_right (Nat.pow_pos (by decide)) h1
theorem first_facts {s : SceneD} (h : anyS solvesB s = true) : (sceneB s && (asgB s (firstS solvesB s) && solvesB s (firstS solvesB s))) = true := by
  obtain ⟨h1, h2⟩ := firstS_has h
  have hs : sceneB s = true := by unfold anyS at h; simp only [Bool.and_eq_true] at h; exact h.1
  obtain ⟨n, hn, -⟩ := scene_n hs
  rw [hs, h1, Bool.true_and, Bool.and_true]
  unfold asgB bitsB
  simp only [Bool.and_eq_true, beq_iff_eq, List.all_eq_true, inB_iff]
  exact ⟨by rw [h2.1]; omega, fun x hx => by rcases h2.2 x hx with h | h <;> omega⟩
theorem ispr_none {t : SceneD} {l : List Int} (h : (sceneB t && isPrB t l) = true) : anyS solvesB t = false := by
  simp only [Bool.and_eq_true] at h
  obtain ⟨hs, hp⟩ := h
  unfold isPrB at hp
  simp only [Bool.and_eq_true] at hp
  have h1 := proof_span hs (ispr_facts hs hp.1).1 hp.2
  obtain ⟨n, hn, -⟩ := scene_n hs
  rcases scene_alt hs hn with ⟨-, h2⟩ | ⟨-, h2⟩
  · rw [any_count hs, h2]; rfl
  · exact absurd h1 h2
theorem none_of {s : SceneD} (h : sceneB s = false) : anyS solvesB s = false ∧ findB s = false := by
  unfold anyS findB; rw [h]; exact ⟨rfl, rfl⟩
end Go.Proofs.Ytiidphlfpiaoeaa
