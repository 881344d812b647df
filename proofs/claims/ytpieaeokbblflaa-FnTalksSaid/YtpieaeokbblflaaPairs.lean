/- Lists of pairs of numbers in memory, and the contracts of the laws' helpers on them; conditions: none. -/
import Derived.Test.YtpieaeokbblflaaLists
namespace Go.Proofs.Ytpieaeokbblflaa
open Go.RowKit

theorem info_pair : (Try.prog.info? 76).map (fun i => (i.zero, i.size, i.bytes)) = some (some (.agg #[.int .i64 0, .int .i64 0]), 2, 16) := by kernel_rfl

def flat : List (Int × Int) → List Int
  | [] => []
  | p :: l => p.1 :: p.2 :: flat l
theorem flat_len (ps : List (Int × Int)) : (flat ps).length = 2 * ps.length := by
  induction ps with
  | nil => rfl
  | cons p ps ih => simp only [flat, List.length_cons, ih]; omega
theorem flat_app (a b : List (Int × Int)) : flat (a ++ b) = flat a ++ flat b := by
  induction a with
  | nil => rfl
  | cons p a ih => simp only [flat, List.cons_append, ih]
theorem flat_get0 (ps : List (Int × Int)) (j : Nat) (hj : j < ps.length) (h : 2 * j < (flat ps).length) : (flat ps)[2 * j] = ps[j].1 := by
  induction ps generalizing j with
  | nil => simp at hj
  | cons p ps ih =>
    cases j with
    | zero => rfl
    | succ j =>
      simp only [List.length_cons] at hj
      have := ih j (by omega) (by rw [flat_len]; omega)
      simpa [flat, show 2 * (j + 1) = 2 * j + 1 + 1 by omega] using this
theorem flat_get1 (ps : List (Int × Int)) (j : Nat) (hj : j < ps.length) (h : 2 * j + 1 < (flat ps).length) : (flat ps)[2 * j + 1] = ps[j].2 := by
  induction ps generalizing j with
  | nil => simp at hj
  | cons p ps ih =>
    cases j with
    | zero => rfl
    | succ j =>
      simp only [List.length_cons] at hj
      have := ih j (by omega) (by rw [flat_len]; omega)
      simpa [flat, show 2 * (j + 1) + 1 = 2 * j + 1 + 1 + 1 by omega] using this

/-- the slice reads as these pairs -/
def Pairs (w : World) (v : Value) (ps : List (Int × Int)) : Prop :=
  ∃ a cap, v = .slice a ps.length cap ∧ (ps.length ≤ cap ∧ cap ≤ 9223372036854775807) ∧
    ∀ j (hj : j < (flat ps).length), ∃ b off, a = some ⟨b, off, none⟩ ∧ b < w.heap.size ∧ w.cell? ⟨b, off + j, none⟩ = some (.int .i64 (flat ps)[j])
theorem Pairs.out {w : World} {v : Value} {ps : List (Int × Int)} (h : Pairs w v ps) : ∃ a cap, v = .slice a ps.length cap ∧ ps.length ≤ 9223372036854775807 := by
  obtain ⟨a, cap, rfl, hl, -⟩ := h
  exact ⟨a, cap, rfl, by omega⟩
theorem Pairs.below {w w' : World} {v : Value} {ps : List (Int × Int)} (h : Pairs w v ps) (hb : Below w.heap.size w w') : Pairs w' v ps := by
  obtain ⟨a, cap, rfl, hl, hc⟩ := h
  refine ⟨a, cap, rfl, hl, fun j hj => ?_⟩
  obtain ⟨b, off, e, hlt, hcell⟩ := hc j hj
  exact ⟨b, off, e, Nat.lt_of_lt_of_le hlt hb.size, (hb.cell (p := ⟨b, off + j, none⟩) hlt).trans hcell⟩
theorem Pairs.at {w : World} {a : Option Addr} {n cap : Nat} {ps : List (Int × Int)} (h : Pairs w (.slice a n cap) ps) (j : Nat) (hj : j < ps.length) :
    ∃ b off, a = some ⟨b, off, none⟩ ∧ b < w.heap.size ∧ w.cell? ⟨b, off + j * 2, none⟩ = some (.int .i64 ps[j].1) ∧ w.cell? ⟨b, off + j * 2 + 1, none⟩ = some (.int .i64 ps[j].2) := by
  obtain ⟨a', cap', e, hl, hc⟩ := h
  cases e
  have h0 : 2 * j < (flat ps).length := by rw [flat_len]; omega
  have h1 : 2 * j + 1 < (flat ps).length := by rw [flat_len]; omega
  obtain ⟨b, off, rfl, hlt, c0⟩ := hc _ h0
  obtain ⟨b', off', e, -, c1⟩ := hc _ h1
  cases e
  rw [flat_get0 ps j hj h0] at c0
  rw [flat_get1 ps j hj h1] at c1
  exact ⟨b, off, rfl, hlt, by rw [Nat.mul_comm]; exact c0, by rw [Nat.mul_comm, Nat.add_assoc]; exact c1⟩

/-- n elements of two cells each, in a block of the call's own, from B on -/
def OwnD (w : World) (B : Nat) (v : Value) (n : Nat) (xs : List Int) : Prop := w.ownsRow B 76 2 v n (xs.map (Value.int .i64)) ∧ n ≤ 1099511627776
theorem OwnD.len {w : World} {B n : Nat} {v : Value} {xs : List Int} (h : OwnD w B v n xs) : xs.length = 2 * n := by
  have := h.1.1
  simp only [List.length_map] at this
  omega
theorem OwnD.kept {w w' : World} {B n : Nat} {v : Value} {xs : List Int} (h : OwnD w B v n xs) (hk : ∀ g, v.ownBlock = some g → w'.heap[g]? = w.heap[g]?) : OwnD w' B v n xs := by
  obtain ⟨⟨h1, h2⟩, hl⟩ := h
  refine ⟨⟨h1, ?_⟩, hl⟩
  rcases h2 with h2 | ⟨g, cap, cur, rfl, hg, hh, hr⟩
  · exact .inl h2
  · exact .inr ⟨g, cap, cur, rfl, hg, (hk g rfl).trans hh, hr⟩
theorem OwnD.lt {w : World} {B n : Nat} {v : Value} {xs : List Int} (h : OwnD w B v n xs) : ∀ g, v.ownBlock = some g → B ≤ g ∧ g < w.heap.size := h.1.lt
theorem OwnD.below {w w' : World} {B n : Nat} {v : Value} {xs : List Int} (h : OwnD w B v n xs) (hb : Below w.heap.size w w') : OwnD w' B v n xs := h.kept fun g e => hb.block g (h.lt g e).2
theorem OwnD.off {w w' : World} {B n : Nat} {v : Value} {xs : List Int} {F : Nat → Prop} (h : OwnD w B v n xs) (hk : KeptOff F w w') (hd : ∀ g, v.ownBlock = some g → ¬ F g) : OwnD w' B v n xs := h.kept fun g e => hk.block g (h.lt g e).2 (hd g e)
theorem OwnD.mono {w : World} {B B' n : Nat} {v : Value} {xs : List Int} (h : OwnD w B v n xs) (hB : B' ≤ B) : OwnD w B' v n xs := by
  obtain ⟨⟨h1, h2⟩, hl⟩ := h
  refine ⟨⟨h1, ?_⟩, hl⟩
  rcases h2 with h2 | ⟨g, cap, cur, rfl, hg, hr⟩
  · exact .inl h2
  · exact .inr ⟨g, cap, cur, rfl, Nat.le_trans hB hg, hr⟩
theorem OwnD.shape {w : World} {B n : Nat} {v : Value} {xs : List Int} (h : OwnD w B v n xs) : (v = .slice none 0 0 ∧ n = 0 ∧ xs = []) ∨ ∃ g cap, v = .slice (some ⟨g, 0, none⟩) n cap ∧ (n ≤ cap ∧ cap ≤ 9223372036854775807) ∧ B ≤ g ∧ g < w.heap.size := by
  have hlen := h.len
  rcases h.1.2 with ⟨hv, h0⟩ | ⟨g, cap, cur, hv, hg, hh, hn, hc, hs, ht⟩
  · exact .inl ⟨hv, h0, List.length_eq_zero_iff.1 (by omega)⟩
  · exact .inr ⟨g, cap, hv, ⟨hn, by unfold maxLen at hc; omega⟩, hg, (Array.getElem?_eq_some_iff.1 hh).1⟩
theorem OwnD.cell {w : World} {B g n m cap : Nat} {xs : List Int} (h : OwnD w B (.slice (some ⟨g, 0, none⟩) m cap) n xs) (j : Nat) (hj : j < xs.length) : w.cell? ⟨g, j, none⟩ = some (.int .i64 xs[j]) ∧ w.frozen? ⟨g, j, none⟩ = false := by
  have hlen := h.len
  have hn : m = n := by
    rcases h.1.2 with ⟨hv, _⟩ | ⟨g, cap, cur, hv, _⟩
    · simp at hv
    · simp only [Value.slice.injEq] at hv; exact hv.2.1
  subst hn
  have h1 := h.1
  refine ⟨?_, h1.frozenAt j⟩
  rw [h1.cellAt j (by omega)]
  simp [List.getElem?_eq_getElem hj]
theorem OwnD.set {w : World} {B g n m cap : Nat} {xs : List Int} (h : OwnD w B (.slice (some ⟨g, 0, none⟩) m cap) n xs) (j : Nat) (y : Int) :
    OwnD (w.setCell ⟨g, j, none⟩ (.int .i64 y)) B (.slice (some ⟨g, 0, none⟩) m cap) n (xs.set j y) := by
  have hn : m = n := by
    rcases h.1.2 with ⟨hv, _⟩ | ⟨g, cap, cur, hv, _⟩
    · simp at hv
    · simp only [Value.slice.injEq] at hv; exact hv.2.1
  subst hn
  obtain ⟨h2, h3⟩ := h.1.stored j (.int .i64 y)
  refine ⟨?_, h.2⟩
  rw [List.map_set]
  exact h2
/-- pairs in a block of the call's own -/
def OwnPr (w : World) (B : Nat) (v : Value) (ps : List (Int × Int)) : Prop := OwnD w B v ps.length (flat ps)
theorem OwnPr.pairs {w : World} {B : Nat} {v : Value} {ps : List (Int × Int)} (h : OwnPr w B v ps) : Pairs w v ps := by
  rcases OwnD.shape h with ⟨rfl, h0, h1⟩ | ⟨g, cap, rfl, hc, hg, hl⟩
  · refine ⟨none, 0, by rw [h0], by omega, fun j hj => ?_⟩
    rw [h1] at hj; simp at hj
  · exact ⟨_, cap, rfl, hc, fun j hj => ⟨g, 0, rfl, hl, by rw [Nat.zero_add]; exact (OwnD.cell h j hj).1⟩⟩
def OwnP (w : World) (B : Nat) (F : Nat → Prop) (v : Value) (ps : List (Int × Int)) : Prop := OwnPr w B v ps ∧ ∀ g, v.ownBlock = some g → F g
theorem OwnP.rd {w : World} {B : Nat} {F : Nat → Prop} {v : Value} {ps : List (Int × Int)} (h : OwnP w B F v ps) : Pairs w v ps := h.1.pairs
theorem OwnP.tot {w : World} {B : Nat} {F : Nat → Prop} {v : Value} {ps : List (Int × Int)} (h : OwnP w B F v ps) : ps.length ≤ 1099511627776 := h.1.2
theorem OwnP.below {w w' : World} {B : Nat} {F : Nat → Prop} {v : Value} {ps : List (Int × Int)} (h : OwnP w B F v ps) (hb : Below w.heap.size w w') : OwnP w' B F v ps := ⟨OwnD.below h.1 hb, h.2⟩
theorem OwnP.off {w w' : World} {B : Nat} {F G : Nat → Prop} {v : Value} {ps : List (Int × Int)} (h : OwnP w B F v ps) (hk : KeptOff G w w') (hd : ∀ g, F g → ¬ G g) : OwnP w' B F v ps := ⟨OwnD.off h.1 hk fun g e => hd g (h.2 g e), h.2⟩
theorem OwnP.mono {w : World} {B B' : Nat} {F : Nat → Prop} {v : Value} {ps : List (Int × Int)} (h : OwnP w B F v ps) (hB : B' ≤ B) : OwnP w B' F v ps := ⟨OwnD.mono h.1 hB, h.2⟩
theorem OwnPr.toP {w : World} {B : Nat} {v : Value} {ps : List (Int × Int)} (h : OwnPr w B v ps) : OwnP w B (fun k => B ≤ k ∧ k < w.heap.size) v ps := ⟨h, OwnD.lt h⟩

/-- make([][2]int, n) -/
theorem wp_make_pair {ops : Array Oper} {rest : List Oper} {o : Oper} {a : Act} {Q : Exit → Act → World → Prop} (w : World) (hgd : o.guard = none) (l c : Operand)
    (ho : o.op = .makeSlice 36 l c) (n : Nat) (hl : a.eval l = .int .i64 (n : Int)) (hc : a.eval c = .int .i64 (n : Int)) (hn : n ≤ 1099511627776)
    (h : ∀ w', OwnD w' w.heap.size (.slice (some ⟨w.heap.size, 0, none⟩) n n) n (List.replicate (2 * n) 0) → Below w.heap.size w w' → w.heap.size < w'.heap.size → wpList Try.prog ops Q rest (a.put o.dst (.slice (some ⟨w.heap.size, 0, none⟩) n n)) w') :
    wpList Try.prog ops Q (o :: rest) a w := by
  obtain ⟨i0, hi, hz0, hz1, hz2⟩ := info_parts info_pair
  refine wpList_make_full w hgd l c 36 ho w.heap.size 76 i0 _ 2 Try.underlying36 hi hz0 hz1 .i64 .i64 _ _ n hl hc rfl rfl (by rw [hz2]; omega) (by unfold maxLen; omega) (Nat.le_refl _) fun w' hown hg => ?_
  refine h w' ⟨?_, hn⟩ ((Below.refl _ _).grown hg (Nat.le_refl _) (fun k e => by cases e)) (hown.lt _ rfl).2
  rw [show (madeCells (Value.agg #[.int IntKind.i64 0, .int IntKind.i64 0]).cells (n * 2)).toList = (List.replicate (2 * n) (0 : Int)).map (Value.int .i64) by
    apply List.ext_getElem
    · simp [madeCells, Nat.mul_comm]
    · intro i h1 h2
      simp [madeCells, Value.cells]
      have : i % 2 = 0 ∨ i % 2 = 1 := by omega
      rcases this with e | e <;> simp [e]] at hown
  exact hown
end Go.Proofs.Ytpieaeokbblflaa
