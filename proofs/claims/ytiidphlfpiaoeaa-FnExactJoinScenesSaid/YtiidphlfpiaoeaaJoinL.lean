/- The law on joined scenes: what its two regions of three calls keep; conditions: none. -/
import Derived.Test.YtiidphlfpiaoeaaJoinS
import Derived.Test.YtiidphlfpiaoeaaJoinI
namespace Go.Proofs.Ytiidphlfpiaoeaa
open Go.RowKit

/-- a block of three cells of a type stays one -/
def KeepS (t : TypeId) (w w' : World) : Prop := ∀ (b : Nat) (c0 c1 c2 : Value), w.heap[b]? = some (.cells #[c0, c1, c2] t (0, 0)) → ∃ d0 d1 d2, w'.heap[b]? = some (.cells #[d0, d1, d2] t (0, 0))
theorem keepS_below {t : TypeId} {w w' : World} (h : Below w.heap.size w w') : KeepS t w w' := fun _ _ _ _ e => ⟨_, _, _, blk_later h e⟩
theorem keepS_refl {t : TypeId} (w : World) : KeepS t w w := fun _ _ _ _ e => ⟨_, _, _, e⟩
theorem keepS_set {t : TypeId} {w : World} (q j : Nat) (v : Value) (hj : j < 3) : KeepS t w (w.setCell ⟨q, j, none⟩ v) := fun b c0 c1 c2 e => by
  by_cases h : b = q
  · subst h
    have := blk_set (j := j) (v := v) e
    rcases j with _ | _ | _ | j
    · exact ⟨_, _, _, this⟩
    · exact ⟨_, _, _, this⟩
    · exact ⟨_, _, _, this⟩
    · omega
  · exact ⟨_, _, _, blk_other e h⟩
theorem KeepS.trans {t : TypeId} {a b c : World} (h : KeepS t a b) (k : KeepS t b c) : KeepS t a c := fun q c0 c1 c2 e => by
  obtain ⟨d0, d1, d2, e2⟩ := h q c0 c1 c2 e
  exact k q d0 d1 d2 e2
theorem ownC_setT {w w' : World} {B bo : Nat} {F : Nat → Prop} {v : Value} {r : SceneD} {c : Array Value} {f : Nat × Nat} (h : OwnC w B F v r) (hp : w.heap[bo]? = some (.cells c 27 f)) (hk : KeptOff (fun k => k = bo) w w') : OwnC w' B F v r := by
  obtain ⟨v1, v2, e, F1, F2, h1, h2, hh⟩ := h
  exact ⟨v1, v2, e, F1, F2, ⟨ownR_setT h1.1 hp hk, h1.2⟩, ⟨own_setT h2.1 hp (by decide) hk, h2.2⟩, hh⟩
def JL (B : Nat) (W : World) (a b D : SceneD) (ok : Bool) : Nat → (Nat → Value) → World → Prop
  | 0, _, w => Below B W w
  | 1, u, w => Below B W w ∧ SceneR w (u 1) a
  | 2, u, w => Below B W w ∧ SceneR w (u 1) a ∧ SceneR w (u 3) b
  | 3, u, w => Below B W w ∧ ∃ v, u 4 = .tuple #[v, .bool ok] ∧ OwnC w B (fun k => B ≤ k ∧ k < w.heap.size) v D
  | 4, u, w => Below B W w ∧ ∃ v, u 5 = .tuple #[v, .bool ok] ∧ OwnC w B (fun k => B ≤ k ∧ k < w.heap.size) v D
  | 5, u, w => Below B W w ∧ ∃ v, u 5 = .tuple #[v, .bool ok] ∧ u 6 = v ∧ OwnC w B (fun k => B ≤ k ∧ k < w.heap.size) v D
  | _, u, w => Below B W w ∧ ∃ q v1 v2, u 5 = .tuple #[.agg #[.int .i64 D.n, v1, v2], .bool ok] ∧ u 8 = .pointer (some ⟨q, 0, none⟩) ∧ B ≤ q ∧ w.heap[q]? = some (.cells #[.int .i64 D.n, v1, v2] 27 (0, 0)) ∧ OwnC w B (fun k => B ≤ k ∧ k < w.heap.size) (.agg #[.int .i64 D.n, v1, v2]) D
theorem JL.bel {B : Nat} {W : World} {a b D : SceneD} {ok : Bool} {s : Nat} {u : Nat → Value} {w : World} (h : JL B W a b D ok s u w) : Below B W w := by
  rcases s with _ | _ | _ | _ | _ | _ | s
  · exact h
  all_goals exact h.1
theorem JL.five {B : Nat} {W : World} {a b D : SceneD} {ok : Bool} {s : Nat} {u : Nat → Value} {w : World} (h : JL B W a b D ok s u w) (hs : 3 < s) : ∃ v, u 5 = .tuple #[v, .bool ok] := by
  rcases s with _ | _ | _ | _ | _ | _ | s
  · omega
  · omega
  · omega
  · omega
  · obtain ⟨-, v, e, -⟩ := h; exact ⟨v, e⟩
  · obtain ⟨-, v, e, -⟩ := h; exact ⟨v, e⟩
  · obtain ⟨-, q, v1, v2, e, -⟩ := h; exact ⟨_, e⟩
theorem JL.upd {B : Nat} {W : World} {a b D : SceneD} {ok : Bool} {s : Nat} {u : Nat → Value} {w : World} (h : JL B W a b D ok s u w) (i : Nat) (hi : i ≠ 1 ∧ i ≠ 3 ∧ i ≠ 4 ∧ i ≠ 5 ∧ i ≠ 6) (h8 : i = 8 → s ≤ 5) (v : Value) : JL B W a b D ok s (upd u i v) w := by
  have g1 : Proofs.Ytiidphlfpiaoeaa.upd u i v 1 = u 1 := if_neg fun e => hi.1 e.symm
  have g3 : Proofs.Ytiidphlfpiaoeaa.upd u i v 3 = u 3 := if_neg fun e => hi.2.1 e.symm
  have g4 : Proofs.Ytiidphlfpiaoeaa.upd u i v 4 = u 4 := if_neg fun e => hi.2.2.1 e.symm
  have g5 : Proofs.Ytiidphlfpiaoeaa.upd u i v 5 = u 5 := if_neg fun e => hi.2.2.2.1 e.symm
  have g6 : Proofs.Ytiidphlfpiaoeaa.upd u i v 6 = u 6 := if_neg fun e => hi.2.2.2.2 e.symm
  rcases s with _ | _ | _ | _ | _ | _ | s
  · exact h
  · exact ⟨h.1, by rw [g1]; exact h.2⟩
  · exact ⟨h.1, by rw [g1, g3]; exact h.2⟩
  · exact ⟨h.1, by rw [g4]; exact h.2⟩
  · exact ⟨h.1, by rw [g5]; exact h.2⟩
  · exact ⟨h.1, by rw [g5, g6]; exact h.2⟩
  · have g8 : Proofs.Ytiidphlfpiaoeaa.upd u i v 8 = u 8 := if_neg fun e => by have := h8 e.symm; omega
    exact ⟨h.1, by rw [g5, g8]; exact h.2⟩
theorem JL.below {B : Nat} {W : World} {a b D : SceneD} {ok : Bool} {s : Nat} {u : Nat → Value} {w w' : World} (h : JL B W a b D ok s u w) (hb : Below w.heap.size w w') (hB : B ≤ W.heap.size) : JL B W a b D ok s u w' := by
  have h1 := h.bel
  have h2 : Below B W w' := h1.trans (hb.mono (by have := h1.size; omega))
  have hz := hb.size
  have hC : ∀ v, OwnC w B (fun k => B ≤ k ∧ k < w.heap.size) v D → OwnC w' B (fun k => B ≤ k ∧ k < w'.heap.size) v D := fun v h => (h.below hb).mono (Nat.le_refl _) fun k e => by omega
  rcases s with _ | _ | _ | _ | _ | _ | s
  · exact h2
  · exact ⟨h2, h.2.below hb⟩
  · exact ⟨h2, h.2.1.below hb, h.2.2.below hb⟩
  · obtain ⟨-, v, e, ho⟩ := h; exact ⟨h2, v, e, hC _ ho⟩
  · obtain ⟨-, v, e, ho⟩ := h; exact ⟨h2, v, e, hC _ ho⟩
  · obtain ⟨-, v, e, e2, ho⟩ := h; exact ⟨h2, v, e, e2, hC _ ho⟩
  · obtain ⟨-, q, v1, v2, e, e2, hq, hp, ho⟩ := h; exact ⟨h2, q, v1, v2, e, e2, hq, blk_later hb hp, hC _ ho⟩
end Go.Proofs.Ytiidphlfpiaoeaa
