/- What the law on made scenes says, reckoned; conditions: none. -/
import Derived.Test.YtiidphlfpiaoeaaCN
import Derived.Test.YtiidphlfpiaoeaaJoin
namespace Go.Proofs.Ytiidphlfpiaoeaa
open Go.RowKit

theorem solvesB_iff (s : SceneD) (a : List Int) : solvesB s a = true ↔ ∀ i, i < s.c.length → keptAt s a i = true := by
  unfold solvesB keptL placesL
  simp only [List.length_map, beq_iff_eq]
  constructor
  · intro h i hi
    have h2 : ((List.range s.c.length).filter (keptAt s a)).length = (List.range s.c.length).length := by simp; omega
    exact List.length_filter_eq_length_iff.1 h2 i (List.mem_range.2 hi)
  · intro h
    have h2 := List.length_filter_eq_length_iff.2 (fun i hi => h i (List.mem_range.1 hi) : ∀ i ∈ List.range s.c.length, keptAt s a i = true)
    rw [h2]
    simp
theorem flipAt_get (e : Nat) (l : List Int) (i : Nat) (he : e < l.length) : (flipAt e l).getD i 0 = if i = e then 1 - l.getD e 0 else l.getD i 0 := by
  unfold flipAt
  by_cases h : i = e
  · subst h; simp [List.getD, he]
  · rw [if_neg h]
    simp [List.getD, Ne.symm h]
theorem onesV_cons (x : Int) (c a : List Int) : onesE (x :: c) a = a.getD x.toNat 0 + onesE c a := by simp [onesE]
/-- the count of ones, one place being the other bit -/
theorem onesV_flip (e : Nat) (a : List Int) (he : e < a.length) : ∀ c : List Int, c.Nodup → (∀ x ∈ c, 0 ≤ x) → onesE c (flipAt e a) = onesE c a + if c.contains (e : Int) then 1 - 2 * a.getD e 0 else 0 := by
  intro c
  induction c with
  | nil => intro _ _; simp [onesE]
  | cons x c ih =>
    intro hn h0
    obtain ⟨hx, hc⟩ := List.nodup_cons.1 hn
    rw [onesV_cons, onesV_cons, ih hc fun y hy => h0 y (by simp [hy]), flipAt_get e a x.toNat he]
    have hx0 := h0 x (by simp)
    by_cases h : x.toNat = e
    · have hxe : x = (e : Int) := by omega
      have hnc : c.contains (e : Int) = false := by
        rw [← hxe]
        simpa using hx
      have hyc : (x :: c).contains (e : Int) = true := by simp [hxe]
      rw [if_pos h, hnc, hyc, h]
      simp
      omega
    · have hxe : ¬ x = (e : Int) := by omega
      have hcc : (x :: c).contains (e : Int) = c.contains (e : Int) := by
        simp [Ne.symm hxe]
      rw [if_neg h, hcc]
      omega
theorem okE_iff {s : SceneD} {ev : Int} (h : okE s ev = true) : sceneB s = true ∧ ∃ e n : Nat, ev = (e : Int) ∧ s.n = (n : Int) ∧ e < n := by
  unfold okE at h
  simp only [Bool.and_eq_true] at h
  obtain ⟨n, hn, -⟩ := scene_n h.1
  have := inB_iff.1 h.2
  exact ⟨h.1, ev.toNat, n, by omega, hn, by omega⟩
/-- a context is kept by an assignment as the flipped one is by the flipped -/
theorem kept_flip {s : SceneD} {ev : Int} (h : okE s ev = true) {e : Nat} (hev : ev = (e : Int)) {a : List Int} (ha : e < a.length) (hab : ∀ x ∈ a, x = 0 ∨ x = 1) (i : Nat) (hi : i < s.c.length) : keptAt (flipD s ev) (flipAt e a) i = keptAt s a i := by
  obtain ⟨hs, -⟩ := okE_iff h
  obtain ⟨-, hr⟩ := scene_ctx hs i hi
  obtain ⟨-, hl, h01⟩ := scene_len hs
  have his : i < s.s.length := by omega
  have hD : flipD s ev = ⟨s.n, s.c, flipS s ev s.s.length⟩ := by simp [flipD, h]
  unfold keptAt
  rw [hD]
  have hc : s.c.getD i [] = s.c[i] := by simp [List.getD, hi]
  have hf : (flipS s ev s.s.length).getD i 0 = if hasE s ev i = true then 1 - s.s.getD i 0 else s.s.getD i 0 := by
    have h1 : i < (flipS s ev s.s.length).length := by rw [flipS_len]; exact his
    have h2 := flipS_at s ev s.s.length i h1
    rw [show (flipS s ev s.s.length).getD i 0 = (flipS s ev s.s.length)[i] by simp [List.getD, h1], h2]
    simp [his]
  simp only [hc, hf]
  rw [onesV_flip e a ha s.c[i] (risB_nodup hr) fun x hx => (risB_mem hr x hx).1]
  have hE : hasE s ev i = s.c[i].contains (e : Int) := by unfold hasE hasL; rw [hc, hev]
  rw [hE]
  have hsi := h01 _ (List.getElem_mem his)
  have hsg : s.s.getD i 0 = s.s[i] := by simp [List.getD, his]
  rw [hsg]
  have hae : a.getD e 0 = 0 ∨ a.getD e 0 = 1 := by
    rw [show a.getD e 0 = a[e] by simp [List.getD, ha]]
    exact hab _ (List.getElem_mem ha)
  cases hcon : s.c[i].contains (e : Int) with
  | false => simp
  | true =>
    simp only [if_true]
    rw [Bool.eq_iff_iff]
    simp only [beq_iff_eq]
    rcases hae with e1 | e1 <;> rw [e1] <;> omega
theorem solves_flip {s : SceneD} {ev : Int} (h : okE s ev = true) {e : Nat} (hev : ev = (e : Int)) {a : List Int} (ha : e < a.length) (hab : ∀ x ∈ a, x = 0 ∨ x = 1) : solvesB (flipD s ev) (flipAt e a) = solvesB s a := by
  rw [Bool.eq_iff_iff, solvesB_iff, solvesB_iff]
  have hD : (flipD s ev).c = s.c := by simp [flipD, h]
  rw [hD]
  constructor
  · intro g i hi; rw [← kept_flip h hev ha hab i hi]; exact g i hi
  · intro g i hi; rw [kept_flip h hev ha hab i hi]; exact g i hi
theorem flip_scene {s : SceneD} {ev : Int} (h : okE s ev = true) : sceneB (flipD s ev) = true := by
  obtain ⟨hs, -⟩ := okE_iff h
  obtain ⟨-, hl, h01⟩ := scene_len hs
  have hD : flipD s ev = ⟨s.n, s.c, flipS s ev s.s.length⟩ := by simp [flipD, h]
  rw [hD]
  unfold sceneB at hs ⊢
  simp only [Bool.and_eq_true] at hs ⊢
  refine ⟨hs.1, hs.2.1, ?_, hs.2.2.2⟩
  unfold bitsB
  simp only [Bool.and_eq_true, beq_iff_eq, flipS_len, List.all_eq_true]
  refine ⟨by omega, fun x hx => ?_⟩
  obtain ⟨i, hi, rfl⟩ := List.getElem_of_mem hx
  have hi2 : i < s.s.length := by rw [flipS_len] at hi; exact hi
  rw [flipS_at]
  have := h01 _ (List.getElem_mem hi2)
  have hg : s.s.getD i 0 = s.s[i] := by simp [List.getD, hi2]
  rw [hg]
  apply inB_iff.2
  split <;> omega
/-- flipping an event moves solutions: there are as many -/
theorem count_flip {s : SceneD} {ev : Int} (h : okE s ev = true) : countS solvesB (flipD s ev) = countS solvesB s := by
  obtain ⟨hs, e, n, hev, hn, hen⟩ := okE_iff h
  have hn2 : (flipD s ev).n = s.n := by simp [flipD, h]
  unfold countS
  rw [if_pos hs, if_pos (flip_scene h), hn2]
  have hnn : s.n.toNat = n := by rw [hn]; rfl
  rw [hnn]
  have e1 : cntN (atC solvesB (flipD s ev)) (2 ^ n) = CN (solvesB (flipD s ev)) n := by
    rw [← cnt_CN]
    refine cntN_congr _ fun i _ => ?_
    unfold atC
    rw [hn2, hnn]
  have e2 : cntN (atC solvesB s) (2 ^ n) = CN (solvesB s) n := by
    rw [← cnt_CN]
    refine cntN_congr _ fun i _ => ?_
    unfold atC
    rw [hnn]
  rw [e1, e2, ← CN_flip (solvesB (flipD s ev)) n e hen]
  exact CN_congr n fun l hl => solves_flip h hev (by rw [hl.1]; exact hen) hl.2
/-- flipping twice changes nothing -/
theorem flip_flip {s : SceneD} {ev : Int} (h : okE s ev = true) : okE (flipD s ev) ev = true ∧ flipD (flipD s ev) ev = s := by
  have hD : flipD s ev = ⟨s.n, s.c, flipS s ev s.s.length⟩ := by simp [flipD, h]
  have h2 : okE (flipD s ev) ev = true := by
    have h1 := flip_scene h
    unfold okE at h ⊢
    simp only [Bool.and_eq_true] at h ⊢
    refine ⟨h1, ?_⟩
    rw [show (flipD s ev).n = s.n by rw [hD]]
    exact h.2
  refine ⟨h2, ?_⟩
  have hD2 : flipD (flipD s ev) ev = ⟨(flipD s ev).n, (flipD s ev).c, flipS (flipD s ev) ev (flipD s ev).s.length⟩ := by rw [flipD, if_pos h2]
  rw [hD2, hD]
  have hF : flipS ⟨s.n, s.c, flipS s ev s.s.length⟩ ev (flipS s ev s.s.length).length = s.s := by
    refine List.ext_getElem (by rw [flipS_len, flipS_len]) fun i h1 h2 => ?_
    have hi : i < (flipS s ev s.s.length).length := by rw [flipS_len]; exact h2
    rw [flipS_at]
    have hE : hasE ⟨s.n, s.c, flipS s ev s.s.length⟩ ev i = hasE s ev i := rfl
    rw [hE]
    have hg : (flipS s ev s.s.length).getD i 0 = (flipS s ev s.s.length)[i] := by simp [List.getD, hi]
    show (if i < (flipS s ev s.s.length).length ∧ hasE s ev i = true then 1 - (flipS s ev s.s.length).getD i 0 else (flipS s ev s.s.length).getD i 0) = s.s[i]
    rw [hg, flipS_at]
    have hs2 : s.s.getD i 0 = s.s[i] := by simp [List.getD, h2]
    rw [hs2]
    by_cases hh : hasE s ev i = true
    · rw [if_pos ⟨hi, hh⟩, if_pos ⟨h2, hh⟩]; omega
    · rw [if_neg fun x => hh x.2, if_neg fun x => hh x.2]
  show (⟨s.n, s.c, flipS ⟨s.n, s.c, flipS s ev s.s.length⟩ ev (flipS s ev s.s.length).length⟩ : SceneD) = s
  rw [hF]
theorem onesV_take (c l : List Int) (n : Nat) (h : ∀ e ∈ c, 0 ≤ e ∧ e < n) : onesE c (l.take n) = onesE c l := by
  unfold onesE
  congr 1
  refine List.map_congr_left fun e he => ?_
  obtain ⟨h0, h1⟩ := h e he
  have : e.toNat < n := by omega
  simp [List.getD, this]
theorem onesV_drop (c l : List Int) (n : Nat) (h : ∀ e ∈ c, 0 ≤ e) : onesE (c.map (· + (n : Int))) l = onesE c (l.drop n) := by
  unfold onesE
  rw [List.map_map]
  congr 1
  refine List.map_congr_left fun e he => ?_
  have h0 := h e he
  have : (e + (n : Int)).toNat = n + e.toNat := by omega
  simp [Function.comp, List.getD, List.getElem?_drop, this]
theorem addL_zero' (xss : List (List Int)) : addL 0 xss = xss := by simp [addL]
theorem join_lo {a b : SceneD} (ha : sceneB a = true) {na : Nat} (en : a.n = (na : Int)) (l : List Int) (i : Nat) (hi : i < a.c.length) :
    onesE ((joinV a b).c.getD i []) l = onesE (a.c.getD i []) (l.take na) ∧ (joinV a b).s.getD i 0 = a.s.getD i 0 := by
  obtain ⟨-, hr⟩ := scene_ctx ha i hi
  obtain ⟨-, hl, -⟩ := scene_len ha
  have his : i < a.s.length := by omega
  have e1 : (joinV a b).c.getD i [] = a.c[i] := by
    show (addL 0 a.c ++ addL a.n b.c).getD i [] = _
    rw [addL_zero']
    simp [List.getD, List.getElem?_append, hi]
  have e2 : a.c.getD i [] = a.c[i] := by simp [List.getD, hi]
  have e3 : (joinV a b).s.getD i 0 = a.s.getD i 0 := by
    show (a.s ++ b.s).getD i 0 = _
    simp [List.getD, List.getElem?_append, his]
  rw [e1, e2]
  refine ⟨(onesV_take _ _ _ fun e he => ?_).symm, e3⟩
  have := risB_mem hr e he
  omega
theorem join_hi {a b : SceneD} (ha : sceneB a = true) (hb : sceneB b = true) {na : Nat} (en : a.n = (na : Int)) (l : List Int) (j : Nat) (hj : j < b.c.length) :
    onesE ((joinV a b).c.getD (a.c.length + j) []) l = onesE (b.c.getD j []) (l.drop na) ∧ (joinV a b).s.getD (a.c.length + j) 0 = b.s.getD j 0 := by
  obtain ⟨-, hr⟩ := scene_ctx hb j hj
  obtain ⟨-, hl, -⟩ := scene_len ha
  have e1 : (joinV a b).c.getD (a.c.length + j) [] = b.c[j].map (· + (na : Int)) := by
    show (addL 0 a.c ++ addL a.n b.c).getD (a.c.length + j) [] = _
    rw [addL_zero', en]
    have h1 : ¬ a.c.length + j < a.c.length := by omega
    simp [List.getD, addL, hj]
  have e2 : b.c.getD j [] = b.c[j] := by simp [List.getD, hj]
  have e3 : (joinV a b).s.getD (a.c.length + j) 0 = b.s.getD j 0 := by
    show (a.s ++ b.s).getD (a.c.length + j) 0 = _
    have h1 : ¬ a.c.length + j < a.s.length := by omega
    have h2 : a.c.length + j - a.s.length = j := by omega
    simp [List.getD, List.getElem?_append, h1, h2]
  rw [e1, e2]
  exact ⟨onesV_drop _ _ _ fun e he => (risB_mem hr e he).1, e3⟩
theorem joinV_len (a b : SceneD) : (joinV a b).c.length = a.c.length + b.c.length := by simp [joinV, addL]
theorem solves_join {a b : SceneD} (ha : sceneB a = true) (hb : sceneB b = true) {na : Nat} (en : a.n = (na : Int)) (l : List Int) : solvesB (joinV a b) l = (solvesB a (l.take na) && solvesB b (l.drop na)) := by
  rw [Bool.eq_iff_iff, Bool.and_eq_true, solvesB_iff, solvesB_iff, solvesB_iff, joinV_len]
  have lo := fun i (hi : i < a.c.length) => show keptAt (joinV a b) l i = keptAt a (l.take na) i by
    obtain ⟨e1, e2⟩ := join_lo (b := b) ha en l i hi
    unfold keptAt
    rw [e1, e2]
  have hi := fun j (hj : j < b.c.length) => show keptAt (joinV a b) l (a.c.length + j) = keptAt b (l.drop na) j by
    obtain ⟨e1, e2⟩ := join_hi ha hb en l j hj
    unfold keptAt
    rw [e1, e2]
  constructor
  · intro h
    exact ⟨fun i hh => by rw [← lo i hh]; exact h i (by omega), fun j hh => by rw [← hi j hh]; exact h _ (by omega)⟩
  · rintro ⟨h1, h2⟩ i hh
    by_cases hc : i < a.c.length
    · rw [lo i hc]; exact h1 i hc
    · obtain ⟨j, rfl⟩ : ∃ j, i = a.c.length + j := ⟨i - a.c.length, by omega⟩
      rw [hi j (by omega)]; exact h2 j (by omega)
theorem picksB_iff (s : SceneD) (a : List Int) : picksB s a = true ↔ ∀ i, i < s.c.length → pickAt s a i = true := by
  unfold picksB
  rw [List.all_eq_true]
  exact ⟨fun h i hi => h i (List.mem_range.2 hi), fun h i hi => h i (List.mem_range.1 hi)⟩
theorem picks_join {a b : SceneD} (ha : sceneB a = true) (hb : sceneB b = true) {na : Nat} (en : a.n = (na : Int)) (l : List Int) : picksB (joinV a b) l = (picksB a (l.take na) && picksB b (l.drop na)) := by
  rw [Bool.eq_iff_iff, Bool.and_eq_true, picksB_iff, picksB_iff, picksB_iff, joinV_len]
  have lo := fun i (hi : i < a.c.length) => show pickAt (joinV a b) l i = pickAt a (l.take na) i by
    obtain ⟨e1, -⟩ := join_lo (b := b) ha en l i hi
    unfold pickAt
    rw [e1]
  have hi := fun j (hj : j < b.c.length) => show pickAt (joinV a b) l (a.c.length + j) = pickAt b (l.drop na) j by
    obtain ⟨e1, -⟩ := join_hi ha hb en l j hj
    unfold pickAt
    rw [e1]
  constructor
  · intro h
    exact ⟨fun i hh => by rw [← lo i hh]; exact h i (by omega), fun j hh => by rw [← hi j hh]; exact h _ (by omega)⟩
  · rintro ⟨h1, h2⟩ i hh
    by_cases hc : i < a.c.length
    · rw [lo i hc]; exact h1 i hc
    · obtain ⟨j, rfl⟩ : ∃ j, i = a.c.length + j := ⟨i - a.c.length, by omega⟩
      rw [hi j (by omega)]; exact h2 j (by omega)
theorem countS_CN (p : SceneD → List Int → Bool) {s : SceneD} (hs : sceneB s = true) {n : Nat} (hn : s.n = (n : Int)) : countS p s = CN (p s) n := by
  unfold countS
  rw [if_pos hs, ← cnt_CN]
  have hnn : s.n.toNat = n := by rw [hn]; rfl
  rw [hnn]
  refine cntN_congr _ fun i _ => ?_
  unfold atC
  rw [hnn]
/-- joined scenes have the products of the counts -/
theorem count_join {a b : SceneD} (h : joinOk a b = true) : countS solvesB (joinD a b) = countS solvesB a * countS solvesB b ∧ countS picksB (joinD a b) = countS picksB a * countS picksB b := by
  rw [joinD_yes h]
  unfold joinOk at h
  simp only [Bool.and_eq_true] at h
  obtain ⟨ha, hb, hj⟩ := h
  obtain ⟨na, ea, -⟩ := scene_n ha
  obtain ⟨nb, eb, -⟩ := scene_n hb
  have ej : (joinV a b).n = ((na + nb : Nat) : Int) := by
    show a.n + b.n = _
    rw [ea, eb]; simp
  rw [countS_CN _ hj ej, countS_CN _ ha ea, countS_CN _ hb eb, countS_CN _ hj ej, countS_CN _ ha ea, countS_CN _ hb eb, ← CN_append, ← CN_append]
  exact ⟨CN_congr _ fun l _ => solves_join ha hb ea l, CN_congr _ fun l _ => picks_join ha hb ea l⟩
/-- who picks, solves the odd scene -/
def oddV (s : SceneD) : SceneD := ⟨s.n, s.c, List.replicate s.c.length 1⟩
theorem odd_solved {s : SceneD} {l : List Int} (h : picksB s l = true) : solvesB (oddV s) l = true := by
  rw [solvesB_iff]
  intro i hi
  have hp := (picksB_iff s l).1 h i hi
  unfold pickAt at hp
  unfold keptAt oddV
  have e1 := beq_iff_eq.1 hp
  show (onesE (s.c.getD i []) l % 2 == (List.replicate s.c.length (1 : Int)).getD i 0) = true
  rw [e1]
  have hi2 : i < s.c.length := hi
  simp [List.getD, hi2]
/-- a list of bits that has the property is counted -/
theorem any_of {p : SceneD → List Int → Bool} {s : SceneD} (hs : sceneB s = true) {l : List Int} (hl : bitsB s.n l = true) (h : p s l = true) : 0 < countS p s := by
  obtain ⟨n, en, -⟩ := scene_n hs
  rw [countS_CN p hs en]
  unfold bitsB at hl
  simp only [Bool.and_eq_true, beq_iff_eq, List.all_eq_true] at hl
  refine CN_pos (p s) n l ⟨by have := hl.1; omega, fun x hx => ?_⟩ h
  have := inB_iff.1 (hl.2 x hx)
  omega
theorem fstN_has (p : Nat → Bool) : ∀ k, 0 < cntN p k → p (fstN p k) = true ∧ fstN p k < k := by
  intro k
  induction k with
  | zero => intro h; simp [cntN] at h
  | succ k ih =>
    intro h
    by_cases h0 : cntN p k = 0
    · simp only [cntN, h0] at h
      have hp : p k = true := by
        cases e : p k with
        | true => rfl
        | false => rw [e] at h; simp at h
      simp [fstN, h0, hp]
    · have := ih (by omega)
      simp only [fstN, if_neg h0]
      exact ⟨this.1, by omega⟩
theorem asgL_bits (n c : Nat) : Bits n (asgL n c) := by
  refine ⟨mapR_len _ _, fun x hx => ?_⟩
  obtain ⟨i, hi, rfl⟩ := List.getElem_of_mem hx
  unfold asgL at hi ⊢
  rw [mapR_get]
  unfold bitAt
  omega
/-- what is found is a list of bits that has the property -/
theorem firstS_has {p : SceneD → List Int → Bool} {s : SceneD} (h : anyS p s = true) : p s (firstS p s) = true ∧ Bits s.n.toNat (firstS p s) := by
  unfold anyS at h
  simp only [Bool.and_eq_true, decide_eq_true_eq] at h
  obtain ⟨hs, hc⟩ := h
  have hf := fstN_has _ _ hc
  unfold firstS foundL
  rw [if_pos hs, if_neg (by omega)]
  exact ⟨hf.1, asgL_bits _ _⟩
end Go.Proofs.Ytiidphlfpiaoeaa
