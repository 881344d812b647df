/- What the walk of the law on made scenes needs, and boxes that hold scenes; conditions: none. -/
import Derived.Test.YtiidphlfpiaoeaaLawSM
import Derived.Test.YtiidphlfpiaoeaaOddS
namespace Go.Proofs.Ytiidphlfpiaoeaa
open Go.RowKit

/-- a box that holds a scene -/
def BoxS (w : World) (b : Nat) (s : SceneD) : Prop := ∃ a1 k1 a2 k2, w.heap[b]? = some (.cells #[.int .i64 s.n, .slice a1 s.c.length k1, .slice a2 s.s.length k2] 27 (0, 0)) ∧ SceneR w (.agg #[.int .i64 s.n, .slice a1 s.c.length k1, .slice a2 s.s.length k2]) s
theorem BoxS.below {w w' : World} {b : Nat} {s : SceneD} (h : BoxS w b s) (hb : Below w.heap.size w w') : BoxS w' b s := by
  obtain ⟨a1, k1, a2, k2, p, r⟩ := h
  exact ⟨a1, k1, a2, k2, blk_later hb p, r.below hb⟩
theorem BoxS.new {w : World} {a1 a2 : Option Addr} {k1 k2 : Nat} {s : SceneD} (h : SceneR w (.agg #[.int .i64 s.n, .slice a1 s.c.length k1, .slice a2 s.s.length k2]) s) :
    BoxS (w.alloc (.cells #[.int .i64 s.n, .slice a1 s.c.length k1, .slice a2 s.s.length k2] 27)) w.heap.size s ∧ Below w.heap.size w (w.alloc (.cells #[.int .i64 s.n, .slice a1 s.c.length k1, .slice a2 s.s.length k2] 27)) := by
  have hA := (Below.refl w.heap.size w).alloc (Nat.le_refl _) (.cells #[.int .i64 s.n, .slice a1 s.c.length k1, .slice a2 s.s.length k2] 27)
  exact ⟨⟨a1, k1, a2, k2, heap_alloc_at rfl, h.below hA⟩, hA⟩
theorem BoxS.open {w : World} {b : Nat} {s : SceneD} (h : BoxS w b s) : ∃ a1 k1 a2 k2, w.cell? ⟨b, 0, none⟩ = some (.int .i64 s.n) ∧ w.cell? ⟨b, 1, none⟩ = some (.slice a1 s.c.length k1) ∧ w.cell? ⟨b, 2, none⟩ = some (.slice a2 s.s.length k2) ∧ SceneR w (.agg #[.int .i64 s.n, .slice a1 s.c.length k1, .slice a2 s.s.length k2]) s := by
  obtain ⟨a1, k1, a2, k2, p, r⟩ := h
  obtain ⟨⟨z0, z1, z2⟩, -⟩ := blk3 p
  exact ⟨a1, k1, a2, k2, z0, z1, z2, r⟩

theorem flip_facts {s : SceneD} {ev : Int} (h : okE s ev = true) : sceneB s = true ∧ sceneB (flipD s ev) = true ∧ countS solvesB (flipD s ev) = countS solvesB s ∧ okE (flipD s ev) ev = true ∧ flipD (flipD s ev) ev = s :=
  ⟨(okE_iff h).1, flip_scene h, count_flip h, (flip_flip h).1, (flip_flip h).2⟩
theorem moved_facts {s : SceneD} {ev : Int} (h : okE s ev = true) (g : anyS solvesB s = true) :
    ∃ e : Nat, ev = (e : Int) ∧ e < (firstS solvesB s).length ∧ 0 ≤ (firstS solvesB s).getD e 0 ∧ (firstS solvesB s).getD e 0 ≤ 1 ∧
      sceneB (flipD s ev) = true ∧ asgB (flipD s ev) ((firstS solvesB s).set e (1 - (firstS solvesB s).getD e 0)) = true ∧ solvesB (flipD s ev) ((firstS solvesB s).set e (1 - (firstS solvesB s).getD e 0)) = true := by
  obtain ⟨hs, e, n, hev, hn, hen⟩ := okE_iff h
  obtain ⟨h1, h2, h3⟩ := firstS_has g
  obtain ⟨L, hL⟩ : ∃ z, z = firstS solvesB s := ⟨_, rfl⟩
  rw [← hL] at h1 h2 h3 ⊢
  have hnn : s.n.toNat = n := by rw [hn]; rfl
  have he : e < L.length := by omega
  have hse : L.getD e 0 = L[e] := by simp [List.getD, he]
  have hfl : flipAt e L = L.set e (1 - L[e]) := by unfold flipAt; rw [hse]
  have hx := h3 _ (List.getElem_mem he)
  refine ⟨e, hev, he, by rw [hse]; omega, by rw [hse]; omega, flip_scene h, ?_, ?_⟩
  · rw [hse]
    have hD : (flipD s ev).n = s.n := by simp [flipD, h]
    unfold asgB bitsB
    rw [hD]
    simp only [Bool.and_eq_true, beq_iff_eq, List.length_set, List.all_eq_true, inB_iff]
    refine ⟨by omega, fun x hx2 => ?_⟩
    rcases List.mem_or_eq_of_mem_set hx2 with e1 | e1
    · have := h3 x e1; omega
    · omega
  · rw [hse, ← hfl, solves_flip h hev he h3]
    exact h1
theorem cntN_leN (p : Nat → Bool) : ∀ k, cntN p k ≤ k
  | 0 => by simp [cntN]
  | k + 1 => by
    have := cntN_leN p k
    simp only [cntN]
    split <;> omega
theorem countS_le (p : SceneD → List Int → Bool) (s : SceneD) : countS p s ≤ 4096 := by
  unfold countS
  split
  · rename_i h
    obtain ⟨n, hn, h12⟩ := scene_n h
    have := cntN_leN (atC p s) (2 ^ s.n.toNat)
    have h2 : 2 ^ s.n.toNat ≤ 2 ^ 12 := Nat.pow_le_pow_right (by decide) (by omega)
    omega
  · omega
theorem join_facts {a b : SceneD} (h : joinOk a b = true) : sceneB (joinD a b) = true ∧ (countS solvesB a : Int) * (countS solvesB b : Int) = (countS solvesB (joinD a b) : Int) ∧ (countS picksB a : Int) * (countS picksB b : Int) = (countS picksB (joinD a b) : Int) := by
  obtain ⟨h1, h2⟩ := count_join h
  refine ⟨?_, by rw [h1]; simp, by rw [h2]; simp⟩
  rw [joinD_yes h]
  unfold joinOk at h
  simp only [Bool.and_eq_true] at h
  exact h.2.2
theorem kept_facts {u : SceneD} {l : List Int} (h : (sceneB u && (asgB u l && solvesB u l)) = true) : (sceneB u && asgB u l) = true ∧ (keptL u l).length = u.c.length := by
  simp only [Bool.and_eq_true] at h
  obtain ⟨h1, h2, h3⟩ := h
  unfold solvesB at h3
  rw [beq_iff_eq] at h3
  exact ⟨by rw [h1, h2]; rfl, by omega⟩
theorem pick_facts {t : SceneD} (h : sceneB t = true) (l : List Int) : anyS picksB t = decide ((countS picksB t : Int) > 0) ∧ ((sceneB t && (asgB t l && picksB t l)) = true → anyS picksB t = true) ∧
    ((sceneB t && (asgB t l && picksB t l)) = true → (sceneB (oddD t) && (asgB (oddD t) l && solvesB (oddD t) l)) = true) ∧ sceneB (oddD t) = true := by
  have e1 : anyS picksB t = decide ((countS picksB t : Int) > 0) := by
    unfold anyS countS
    rw [h, if_pos rfl, Bool.true_and]
    simp
  have hod : oddD t = oddV t := by unfold oddD; rw [if_pos h]
  have hos : sceneB (oddV t) = true := by
    unfold oddV sceneB at *
    simp only [Bool.and_eq_true] at h ⊢
    refine ⟨h.1, h.2.1, ?_, h.2.2.2⟩
    unfold bitsB
    simp only [List.length_replicate, beq_self_eq_true, Bool.true_and, List.all_eq_true]
    intro x hx
    rw [(List.mem_replicate.1 hx).2]
    decide
  refine ⟨e1, fun g => ?_, fun g => ?_, by rw [hod]; exact hos⟩
  · simp only [Bool.and_eq_true] at g
    have := any_of h g.2.1 g.2.2
    rw [e1]
    simp
    exact this
  · simp only [Bool.and_eq_true] at g
    rw [hod, hos, odd_solved g.2.2]
    have : asgB (oddV t) l = true := g.2.1
    rw [this]
    rfl
theorem pick_none {t : SceneD} (h : sceneB t = false) : anyS picksB t = false := by unfold anyS; rw [h]; rfl
end Go.Proofs.Ytiidphlfpiaoeaa
