/- Lists of pairs of numbers in memory, and the contracts of the laws' helpers on them; conditions: none. -/
import Derived.Test.YtjeaeninpmaoiaaJ1
import Derived.Test.YtjeaeninpmaoiaaJ4
import Derived.Test.YtjeaeninpmaoiaaJ5
namespace Go.Proofs.Ytjeaeninpmaoiaa
open Go.RowKit

theorem info_pair : (Try.prog.info? 48).map (fun i => (i.zero, i.size, i.bytes)) = some (some (.agg #[.int .i64 0, .int .i64 0]), 2, 16) := by kernel_rfl

def flat : List (Int × Int) → List Int
  | [] => []
  | p :: l => p.1 :: p.2 :: flat l
theorem flat_len (ps : List (Int × Int)) : (flat ps).length = 2 * ps.length := by
  induction ps with
  | nil => rfl
  | cons p ps ih => simp only [flat, List.length_cons, ih]; omega
theorem flat_app (a b : List (Int × Int)) : flat (a ++ b) = flat a ++ flat b := by
  induction a with
  | nil => rfl
  | cons p a ih => simp only [flat, List.cons_append, ih]
theorem flat_get0 (ps : List (Int × Int)) (j : Nat) (hj : j < ps.length) (h : 2 * j < (flat ps).length) : (flat ps)[2 * j] = ps[j].1 := by
  induction ps generalizing j with
  | nil => simp at hj
  | cons p ps ih =>
    cases j with
    | zero => rfl
    | succ j =>
      simp only [List.length_cons] at hj
      have := ih j (by omega) (by rw [flat_len]; omega)
      simpa [flat, show 2 * (j + 1) = 2 * j + 1 + 1 by omega] using this
theorem flat_get1 (ps : List (Int × Int)) (j : Nat) (hj : j < ps.length) (h : 2 * j + 1 < (flat ps).length) : (flat ps)[2 * j + 1] = ps[j].2 := by
  induction ps generalizing j with
  | nil => simp at hj
  | cons p ps ih =>
    cases j with
    | zero => rfl
    | succ j =>
      simp only [List.length_cons] at hj
      have := ih j (by omega) (by rw [flat_len]; omega)
      simpa [flat, show 2 * (j + 1) + 1 = 2 * j + 1 + 1 + 1 by omega] using this

/-- the slice reads as these pairs -/
def Pairs (w : World) (v : Value) (ps : List (Int × Int)) : Prop :=
  ∃ a cap, v = .slice a ps.length cap ∧ (ps.length ≤ cap ∧ cap ≤ 9223372036854775807) ∧
    ∀ j (hj : j < (flat ps).length), ∃ b off, a = some ⟨b, off, none⟩ ∧ b < w.heap.size ∧ w.cell? ⟨b, off + j, none⟩ = some (.int .i64 (flat ps)[j])
theorem Pairs.out {w : World} {v : Value} {ps : List (Int × Int)} (h : Pairs w v ps) : ∃ a cap, v = .slice a ps.length cap ∧ ps.length ≤ 9223372036854775807 := by
  obtain ⟨a, cap, rfl, hl, -⟩ := h
  exact ⟨a, cap, rfl, by omega⟩
theorem Pairs.below {w w' : World} {v : Value} {ps : List (Int × Int)} (h : Pairs w v ps) (hb : Below w.heap.size w w') : Pairs w' v ps := by
  obtain ⟨a, cap, rfl, hl, hc⟩ := h
  refine ⟨a, cap, rfl, hl, fun j hj => ?_⟩
  obtain ⟨b, off, e, hlt, hcell⟩ := hc j hj
  exact ⟨b, off, e, Nat.lt_of_lt_of_le hlt hb.size, (hb.cell (p := ⟨b, off + j, none⟩) hlt).trans hcell⟩
theorem Pairs.at {w : World} {a : Option Addr} {n cap : Nat} {ps : List (Int × Int)} (h : Pairs w (.slice a n cap) ps) (j : Nat) (hj : j < ps.length) :
    ∃ b off, a = some ⟨b, off, none⟩ ∧ b < w.heap.size ∧ w.cell? ⟨b, off + j * 2, none⟩ = some (.int .i64 ps[j].1) ∧ w.cell? ⟨b, off + j * 2 + 1, none⟩ = some (.int .i64 ps[j].2) := by
  obtain ⟨a', cap', e, hl, hc⟩ := h
  cases e
  have h0 : 2 * j < (flat ps).length := by rw [flat_len]; omega
  have h1 : 2 * j + 1 < (flat ps).length := by rw [flat_len]; omega
  obtain ⟨b, off, rfl, hlt, c0⟩ := hc _ h0
  obtain ⟨b', off', e, -, c1⟩ := hc _ h1
  cases e
  rw [flat_get0 ps j hj h0] at c0
  rw [flat_get1 ps j hj h1] at c1
  exact ⟨b, off, rfl, hlt, by rw [Nat.mul_comm]; exact c0, by rw [Nat.mul_comm, Nat.add_assoc]; exact c1⟩

/-- n elements of two cells each, in a block of the call's own, from B on -/
def OwnD (w : World) (B : Nat) (v : Value) (n : Nat) (xs : List Int) : Prop := w.ownsRow B 48 2 v n (xs.map (Value.int .i64)) ∧ n ≤ 1099511627776
theorem OwnD.len {w : World} {B n : Nat} {v : Value} {xs : List Int} (h : OwnD w B v n xs) : xs.length = 2 * n := by
  have := h.1.1
  simp only [List.length_map] at this
  omega
theorem OwnD.kept {w w' : World} {B n : Nat} {v : Value} {xs : List Int} (h : OwnD w B v n xs) (hk : ∀ g, v.ownBlock = some g → w'.heap[g]? = w.heap[g]?) : OwnD w' B v n xs := by
  obtain ⟨⟨h1, h2⟩, hl⟩ := h
  refine ⟨⟨h1, ?_⟩, hl⟩
  rcases h2 with h2 | ⟨g, cap, cur, rfl, hg, hh, hr⟩
  · exact .inl h2
  · exact .inr ⟨g, cap, cur, rfl, hg, (hk g rfl).trans hh, hr⟩
theorem OwnD.lt {w : World} {B n : Nat} {v : Value} {xs : List Int} (h : OwnD w B v n xs) : ∀ g, v.ownBlock = some g → B ≤ g ∧ g < w.heap.size := h.1.lt
theorem OwnD.below {w w' : World} {B n : Nat} {v : Value} {xs : List Int} (h : OwnD w B v n xs) (hb : Below w.heap.size w w') : OwnD w' B v n xs := h.kept fun g e => hb.block g (h.lt g e).2
theorem OwnD.off {w w' : World} {B n : Nat} {v : Value} {xs : List Int} {F : Nat → Prop} (h : OwnD w B v n xs) (hk : KeptOff F w w') (hd : ∀ g, v.ownBlock = some g → ¬ F g) : OwnD w' B v n xs := h.kept fun g e => hk.block g (h.lt g e).2 (hd g e)
theorem OwnD.mono {w : World} {B B' n : Nat} {v : Value} {xs : List Int} (h : OwnD w B v n xs) (hB : B' ≤ B) : OwnD w B' v n xs := by
  obtain ⟨⟨h1, h2⟩, hl⟩ := h
  refine ⟨⟨h1, ?_⟩, hl⟩
  rcases h2 with h2 | ⟨g, cap, cur, rfl, hg, hr⟩
  · exact .inl h2
  · exact .inr ⟨g, cap, cur, rfl, Nat.le_trans hB hg, hr⟩
theorem OwnD.shape {w : World} {B n : Nat} {v : Value} {xs : List Int} (h : OwnD w B v n xs) : (v = .slice none 0 0 ∧ n = 0 ∧ xs = []) ∨ ∃ g cap, v = .slice (some ⟨g, 0, none⟩) n cap ∧ (n ≤ cap ∧ cap ≤ 9223372036854775807) ∧ B ≤ g ∧ g < w.heap.size := by
  have hlen := h.len
  rcases h.1.2 with ⟨hv, h0⟩ | ⟨g, cap, cur, hv, hg, hh, hn, hc, hs, ht⟩
  · exact .inl ⟨hv, h0, List.length_eq_zero_iff.1 (by omega)⟩
  · exact .inr ⟨g, cap, hv, ⟨hn, by unfold maxLen at hc; omega⟩, hg, (Array.getElem?_eq_some_iff.1 hh).1⟩
theorem OwnD.cell {w : World} {B g n m cap : Nat} {xs : List Int} (h : OwnD w B (.slice (some ⟨g, 0, none⟩) m cap) n xs) (j : Nat) (hj : j < xs.length) : w.cell? ⟨g, j, none⟩ = some (.int .i64 xs[j]) ∧ w.frozen? ⟨g, j, none⟩ = false := by
  have hlen := h.len
  have hn : m = n := by
    rcases h.1.2 with ⟨hv, _⟩ | ⟨g, cap, cur, hv, _⟩
    · simp at hv
    · simp only [Value.slice.injEq] at hv; exact hv.2.1
  subst hn
  have h1 := h.1
  refine ⟨?_, h1.frozenAt j⟩
  rw [h1.cellAt j (by omega)]
  simp [List.getElem?_eq_getElem hj]
theorem OwnD.set {w : World} {B g n m cap : Nat} {xs : List Int} (h : OwnD w B (.slice (some ⟨g, 0, none⟩) m cap) n xs) (j : Nat) (y : Int) :
    OwnD (w.setCell ⟨g, j, none⟩ (.int .i64 y)) B (.slice (some ⟨g, 0, none⟩) m cap) n (xs.set j y) := by
  have hn : m = n := by
    rcases h.1.2 with ⟨hv, _⟩ | ⟨g, cap, cur, hv, _⟩
    · simp at hv
    · simp only [Value.slice.injEq] at hv; exact hv.2.1
  subst hn
  obtain ⟨h2, h3⟩ := h.1.stored j (.int .i64 y)
  refine ⟨?_, h.2⟩
  rw [List.map_set]
  exact h2
/-- pairs in a block of the call's own -/
def OwnPr (w : World) (B : Nat) (v : Value) (ps : List (Int × Int)) : Prop := OwnD w B v ps.length (flat ps)
theorem OwnPr.pairs {w : World} {B : Nat} {v : Value} {ps : List (Int × Int)} (h : OwnPr w B v ps) : Pairs w v ps := by
  rcases OwnD.shape h with ⟨rfl, h0, h1⟩ | ⟨g, cap, rfl, hc, hg, hl⟩
  · refine ⟨none, 0, by rw [h0], by omega, fun j hj => ?_⟩
    rw [h1] at hj; simp at hj
  · exact ⟨_, cap, rfl, hc, fun j hj => ⟨g, 0, rfl, hl, by rw [Nat.zero_add]; exact (OwnD.cell h j hj).1⟩⟩
def OwnP (w : World) (B : Nat) (F : Nat → Prop) (v : Value) (ps : List (Int × Int)) : Prop := OwnPr w B v ps ∧ ∀ g, v.ownBlock = some g → F g
theorem OwnP.rd {w : World} {B : Nat} {F : Nat → Prop} {v : Value} {ps : List (Int × Int)} (h : OwnP w B F v ps) : Pairs w v ps := h.1.pairs
theorem OwnP.tot {w : World} {B : Nat} {F : Nat → Prop} {v : Value} {ps : List (Int × Int)} (h : OwnP w B F v ps) : ps.length ≤ 1099511627776 := h.1.2
theorem OwnP.below {w w' : World} {B : Nat} {F : Nat → Prop} {v : Value} {ps : List (Int × Int)} (h : OwnP w B F v ps) (hb : Below w.heap.size w w') : OwnP w' B F v ps := ⟨OwnD.below h.1 hb, h.2⟩
theorem OwnP.off {w w' : World} {B : Nat} {F G : Nat → Prop} {v : Value} {ps : List (Int × Int)} (h : OwnP w B F v ps) (hk : KeptOff G w w') (hd : ∀ g, F g → ¬ G g) : OwnP w' B F v ps := ⟨OwnD.off h.1 hk fun g e => hd g (h.2 g e), h.2⟩
theorem OwnP.mono {w : World} {B B' : Nat} {F : Nat → Prop} {v : Value} {ps : List (Int × Int)} (h : OwnP w B F v ps) (hB : B' ≤ B) : OwnP w B' F v ps := ⟨OwnD.mono h.1 hB, h.2⟩
theorem OwnPr.toP {w : World} {B : Nat} {v : Value} {ps : List (Int × Int)} (h : OwnPr w B v ps) : OwnP w B (fun k => B ≤ k ∧ k < w.heap.size) v ps := ⟨h, OwnD.lt h⟩

/-- make([][2]int, n) -/
theorem wp_make_pair {ops : Array Oper} {rest : List Oper} {o : Oper} {a : Act} {Q : Exit → Act → World → Prop} (w : World) (hgd : o.guard = none) (l c : Operand)
    (ho : o.op = .makeSlice 43 l c) (n : Nat) (hl : a.eval l = .int .i64 (n : Int)) (hc : a.eval c = .int .i64 (n : Int)) (hn : n ≤ 1099511627776)
    (h : ∀ w', OwnD w' w.heap.size (.slice (some ⟨w.heap.size, 0, none⟩) n n) n (List.replicate (2 * n) 0) → Below w.heap.size w w' → w.heap.size < w'.heap.size → wpList Try.prog ops Q rest (a.put o.dst (.slice (some ⟨w.heap.size, 0, none⟩) n n)) w') :
    wpList Try.prog ops Q (o :: rest) a w := by
  obtain ⟨i0, hi, hz0, hz1, hz2⟩ := info_parts info_pair
  refine wpList_make_full w hgd l c 43 ho w.heap.size 48 i0 _ 2 Try.underlying43 hi hz0 hz1 .i64 .i64 _ _ n hl hc rfl rfl (by rw [hz2]; omega) (by unfold maxLen; omega) (Nat.le_refl _) fun w' hown hg => ?_
  refine h w' ⟨?_, hn⟩ ((Below.refl _ _).grown hg (Nat.le_refl _) (fun k e => by cases e)) (hown.lt _ rfl).2
  rw [show (madeCells (Value.agg #[.int IntKind.i64 0, .int IntKind.i64 0]).cells (n * 2)).toList = (List.replicate (2 * n) (0 : Int)).map (Value.int .i64) by
    apply List.ext_getElem
    · simp [madeCells, Nat.mul_comm]
    · intro i h1 h2
      simp [madeCells, Value.cells]
      have : i % 2 = 0 ∨ i % 2 = 1 := by omega
      rcases this with e | e <;> simp [e]] at hown
  exact hown
end Go.Proofs.Ytjeaeninpmaoiaa
/- The contracts of the laws' helpers on lists of pairs; conditions: none. -/
namespace Go.Proofs.Ytjeaeninpmaoiaa
open Go.RowKit

theorem blkP {w : World} {b : Nat} {v1 v2 : Value} {t : TypeId} (h : w.heap[b]? = some (.cells #[v1, v2] t (0, 0))) :
    (w.cell? ⟨b, 0, none⟩ = some v1 ∧ w.cell? ⟨b, 1, none⟩ = some v2) ∧ (w.frozen? ⟨b, 0, none⟩ = false ∧ w.frozen? ⟨b, 1, none⟩ = false) := by
  refine ⟨⟨?_, ?_⟩, ?_, ?_⟩ <;> simp [World.cell?, World.frozen?, h]


def marksP (k : Int) (n : Nat) : List (Int × Int) := (List.range n).map fun i : Nat => (k + 2 * (i : Int), k + 2 * (i : Int) + 1)
theorem flat_marks (k : Int) (n : Nat) : flat (marksP k n) = marks k (2 * n) := by
  induction n with
  | zero => rfl
  | succ n ih =>
    have e : marksP k (n + 1) = marksP k n ++ [(k + 2 * (n : Int), k + 2 * (n : Int) + 1)] := by simp [marksP, List.range_succ]
    rw [e, flat_app, ih, show 2 * (n + 1) = 2 * n + 1 + 1 by omega, marks_succ, marks_succ, List.append_assoc]
    simp only [flat, List.singleton_append, List.cons.injEq, and_true, List.append_cancel_left_eq]
    constructor
    · push_cast; rfl
    · push_cast; omega
theorem marksP_len (k : Int) (n : Nat) : (marksP k n).length = n := by simp [marksP]


end Go.Proofs.Ytjeaeninpmaoiaa
/- Quiet boxes on both sides; conditions: none. -/
namespace Go.Proofs.Ytjeaeninpmaoiaa
open Go.RowKit

def one0 (r : BoxD) (q : Nat) : Int := cellB r q 2 + cellB r q 3
def one1 (r : BoxD) (q : Nat) : Int := cellB r q 1 + cellB r q 3

set_option maxRecDepth 100000 in
set_option maxHeartbeats 4000000 in
theorem c_ones0 (v : Value) (r : BoxD) (q ot Y : Nat) (w : World) (h : BoxR w v r) (hY : r.y = Y) (hb : q ≤ 2 ∧ ot ≤ 2 ∧ Y ≤ 3) (hbb : boxB r = true) (hq : q * Y + ot < r.r.length) :
    Calls Try.prog 108 #[v, .int .i64 0, .int .i64 q, .int .i64 ot] w fun e w' => e = .returned (.int .i64 (one0 r (q * Y + ot))) ∧ Below w.heap.size w w' := by
  have h2 := h
  obtain ⟨v4, rfl, hr⟩ := id h
  obtain ⟨a4, k4, rfl, l4⟩ := hr.out
  have hA := (Below.refl w.heap.size w).alloc (Nat.le_refl _) (.cells #[.int .i64 r.x, .int .i64 r.y, .int .i64 r.w, .slice a4 r.r.length k4] 50)
  have pB : (w.alloc (.cells #[.int .i64 r.x, .int .i64 r.y, .int .i64 r.w, .slice a4 r.r.length k4] 50)).heap[w.heap.size]? = some (.cells #[.int .i64 r.x, .int .i64 r.y, .int .i64 r.w, .slice a4 r.r.length k4] 50 (0, 0)) := heap_alloc_at rfl
  obtain ⟨⟨z0, z1, z2, z3⟩, -⟩ := blk4 pB
  have hc := boxB_cell hbb hq
  have hl := (boxB_row hbb hq).1
  have c1 := hc 2
  have c2 := hc 3
  have hv : Hid (one0 r (q * Y + ot) = cellB r (q * Y + ot) 2 + cellB r (q * Y + ot) 3) := Lib.hid rfl
  have hbx : q ≤ 2 ∧ ot ≤ 2 ∧ Y ≤ 3 := by omega
  have hsz1 : w.heap.size < (w.alloc (.cells #[.int .i64 r.x, .int .i64 r.y, .int .i64 r.w, .slice a4 r.r.length k4] 50)).heap.size := by simp
  replace hc := Lib.hid hc
  replace hl := Lib.hid hl
  replace hq := Lib.hid hq
  replace hbb := Lib.hid hbb
  replace hY := Lib.hid hY
  rw [hv.out]
  go_enter Try.func108, Try.ntmps108
  go_wp2_with fail
  refine wp_region_rk (by kernel_rfl) [none, none, none, none, none, none, none, none, some 9, none, none, some 0, some 1, some 2, some 3, some 4, some 5, some 6, some 7, some 8] 9 (by kernel_rfl) (by kernel_rfl) (by kernel_rfl) _ rfl w.heap.size [rkV (.agg #[.int .i64 r.x, .int .i64 r.y, .int .i64 r.w, .slice a4 r.r.length k4]), rkV (.int .i64 q), rkV (.int .i64 ot), rkV (.int .i64 (cellB r (q * Y + ot) 2)), rkV (.agg #[.int .i64 r.x, .int .i64 r.y, .int .i64 r.w, .slice a4 r.r.length k4]), rkV (.int .i64 q), rkV (.int .i64 ot), rkV (.int .i64 (cellB r (q * Y + ot) 3)), rkV (.int .i64 (cellB r (q * Y + ot) 2 + cellB r (q * Y + ot) 3))] _ rfl (by kernel_rfl) (by simp) ?_ ?_
  · intro i o ho hi u g ww hbw hd
    have hall : Below w.heap.size w ww := hA.trans (hbw.mono (by simp))
    have hlow : w.heap.size ≤ ww.heap.size := hall.size
    obtain ⟨hcl, hfr⟩ := bcell hbw
    have y_z0 := (hcl _ _ (by omega)).trans z0
    have y_z1 := (hcl _ _ (by omega)).trans z1
    have y_z2 := (hcl _ _ (by omega)).trans z2
    have y_z3 := (hcl _ _ (by omega)).trans z3
    clear hcl hfr
    rcases i with _ | _ | _ | _ | _ | _ | _ | _ | _ | _ | i
    all_goals try obtain rfl := Option.some.inj ho
    all_goals try simp only [putAll, fillL]
    · go_wp2
      exact ⟨_, rfl, kept0 (Below.refl _ _), rfl⟩
    · go_wp2
      exact ⟨_, rfl, kept0 (Below.refl _ _), rfl⟩
    · go_wp2
      exact ⟨_, rfl, kept0 (Below.refl _ _), rfl⟩
    · have e0 : u 0 = .agg #[.int .i64 r.x, .int .i64 r.y, .int .i64 r.w, .slice a4 r.r.length k4] := hd 0 (by decide)
      rw [e0]
      have e1 : u 1 = .int .i64 q := hd 1 (by decide)
      rw [e1]
      have e2 : u 2 = .int .i64 ot := hd 2 (by decide)
      rw [e2]
      go_wp2_with fail
      refine (c_at _ r q ot 1 0 Y _ (h2.below hall) hY.out hbx hq.out (by rw [hl.out]; decide) (by decide)).mono ?_
      rintro e wn ⟨rfl, hbn⟩
      go_wp2
      exact ⟨_, by simp only [putAll, fillL, e0, e1, e2] <;> rfl, kept0 hbn, rfl⟩
    · go_wp2
      exact ⟨_, rfl, kept0 (Below.refl _ _), rfl⟩
    · go_wp2
      exact ⟨_, rfl, kept0 (Below.refl _ _), rfl⟩
    · go_wp2
      exact ⟨_, rfl, kept0 (Below.refl _ _), rfl⟩
    · have e4 : u 4 = .agg #[.int .i64 r.x, .int .i64 r.y, .int .i64 r.w, .slice a4 r.r.length k4] := hd 4 (by decide)
      rw [e4]
      have e5 : u 5 = .int .i64 q := hd 5 (by decide)
      rw [e5]
      have e6 : u 6 = .int .i64 ot := hd 6 (by decide)
      rw [e6]
      go_wp2_with fail
      refine (c_at _ r q ot 1 1 Y _ (h2.below hall) hY.out hbx hq.out (by rw [hl.out]; decide) (by decide)).mono ?_
      rintro e wn ⟨rfl, hbn⟩
      go_wp2
      exact ⟨_, by simp only [putAll, fillL, e4, e5, e6] <;> rfl, kept0 hbn, rfl⟩
    · have e3 : u 3 = .int .i64 (cellB r (q * Y + ot) 2) := hd 3 (by decide)
      rw [e3]
      have e7 : u 7 = .int .i64 (cellB r (q * Y + ot) 3) := hd 7 (by decide)
      rw [e7]
      go_wp2
      exact ⟨_, by simp only [putAll, fillL, e3, e7] <;> rfl, kept0 (Below.refl _ _), rfl⟩
    · exact absurd rfl hi
    · simp at ho
  · intro u g w5 hbw hR hAp
    have e8 : u 8 = .int .i64 (cellB r (q * Y + ot) 2 + cellB r (q * Y + ot) 3) := hR 8 (by decide) (by decide)
    clear hR hAp z0 z1 z2 z3
    simp only [putAll, fillL]
    rw [e8]
    go_wp2
    go_ret
    exact ⟨rfl, hA.trans (hbw.mono (by simp))⟩
set_option maxRecDepth 100000 in
set_option maxHeartbeats 4000000 in
theorem c_ones1 (v : Value) (r : BoxD) (q ot Y : Nat) (w : World) (h : BoxR w v r) (hY : r.y = Y) (hb : q ≤ 2 ∧ ot ≤ 2 ∧ Y ≤ 3) (hbb : boxB r = true) (hq : ot * Y + q < r.r.length) :
    Calls Try.prog 108 #[v, .int .i64 1, .int .i64 q, .int .i64 ot] w fun e w' => e = .returned (.int .i64 (one1 r (ot * Y + q))) ∧ Below w.heap.size w w' := by
  have h2 := h
  obtain ⟨v4, rfl, hr⟩ := id h
  obtain ⟨a4, k4, rfl, l4⟩ := hr.out
  have hA := (Below.refl w.heap.size w).alloc (Nat.le_refl _) (.cells #[.int .i64 r.x, .int .i64 r.y, .int .i64 r.w, .slice a4 r.r.length k4] 50)
  have pB : (w.alloc (.cells #[.int .i64 r.x, .int .i64 r.y, .int .i64 r.w, .slice a4 r.r.length k4] 50)).heap[w.heap.size]? = some (.cells #[.int .i64 r.x, .int .i64 r.y, .int .i64 r.w, .slice a4 r.r.length k4] 50 (0, 0)) := heap_alloc_at rfl
  obtain ⟨⟨z0, z1, z2, z3⟩, -⟩ := blk4 pB
  have hc := boxB_cell hbb hq
  have hl := (boxB_row hbb hq).1
  have c1 := hc 1
  have c2 := hc 3
  have hv : Hid (one1 r (ot * Y + q) = cellB r (ot * Y + q) 1 + cellB r (ot * Y + q) 3) := Lib.hid rfl
  have hbx : ot ≤ 2 ∧ q ≤ 2 ∧ Y ≤ 3 := by omega
  have hsz1 : w.heap.size < (w.alloc (.cells #[.int .i64 r.x, .int .i64 r.y, .int .i64 r.w, .slice a4 r.r.length k4] 50)).heap.size := by simp
  replace hc := Lib.hid hc
  replace hl := Lib.hid hl
  replace hq := Lib.hid hq
  replace hbb := Lib.hid hbb
  replace hY := Lib.hid hY
  rw [hv.out]
  go_enter Try.func108, Try.ntmps108
  go_wp2_with fail
  refine wp_region_rk (by kernel_rfl) [none, none, none, none, none, none, none, none, some 9, none, none, none, none, none, none, none, none, none, none, none, some 0, some 1, some 2, some 3, some 4, some 5, some 6, some 7, some 8] 9 (by kernel_rfl) (by kernel_rfl) (by kernel_rfl) _ rfl w.heap.size [rkV (.agg #[.int .i64 r.x, .int .i64 r.y, .int .i64 r.w, .slice a4 r.r.length k4]), rkV (.int .i64 ot), rkV (.int .i64 q), rkV (.int .i64 (cellB r (ot * Y + q) 1)), rkV (.agg #[.int .i64 r.x, .int .i64 r.y, .int .i64 r.w, .slice a4 r.r.length k4]), rkV (.int .i64 ot), rkV (.int .i64 q), rkV (.int .i64 (cellB r (ot * Y + q) 3)), rkV (.int .i64 (cellB r (ot * Y + q) 1 + cellB r (ot * Y + q) 3))] _ rfl (by kernel_rfl) (by simp) ?_ ?_
  · intro i o ho hi u g ww hbw hd
    have hall : Below w.heap.size w ww := hA.trans (hbw.mono (by simp))
    have hlow : w.heap.size ≤ ww.heap.size := hall.size
    obtain ⟨hcl, hfr⟩ := bcell hbw
    have y_z0 := (hcl _ _ (by omega)).trans z0
    have y_z1 := (hcl _ _ (by omega)).trans z1
    have y_z2 := (hcl _ _ (by omega)).trans z2
    have y_z3 := (hcl _ _ (by omega)).trans z3
    clear hcl hfr
    rcases i with _ | _ | _ | _ | _ | _ | _ | _ | _ | _ | i
    all_goals try obtain rfl := Option.some.inj ho
    all_goals try simp only [putAll, fillL]
    · go_wp2
      exact ⟨_, rfl, kept0 (Below.refl _ _), rfl⟩
    · go_wp2
      exact ⟨_, rfl, kept0 (Below.refl _ _), rfl⟩
    · go_wp2
      exact ⟨_, rfl, kept0 (Below.refl _ _), rfl⟩
    · have e0 : u 0 = .agg #[.int .i64 r.x, .int .i64 r.y, .int .i64 r.w, .slice a4 r.r.length k4] := hd 0 (by decide)
      rw [e0]
      have e1 : u 1 = .int .i64 ot := hd 1 (by decide)
      rw [e1]
      have e2 : u 2 = .int .i64 q := hd 2 (by decide)
      rw [e2]
      go_wp2_with fail
      refine (c_at _ r ot q 0 1 Y _ (h2.below hall) hY.out hbx hq.out (by rw [hl.out]; decide) (by decide)).mono ?_
      rintro e wn ⟨rfl, hbn⟩
      go_wp2
      exact ⟨_, by simp only [putAll, fillL, e0, e1, e2] <;> rfl, kept0 hbn, rfl⟩
    · go_wp2
      exact ⟨_, rfl, kept0 (Below.refl _ _), rfl⟩
    · go_wp2
      exact ⟨_, rfl, kept0 (Below.refl _ _), rfl⟩
    · go_wp2
      exact ⟨_, rfl, kept0 (Below.refl _ _), rfl⟩
    · have e4 : u 4 = .agg #[.int .i64 r.x, .int .i64 r.y, .int .i64 r.w, .slice a4 r.r.length k4] := hd 4 (by decide)
      rw [e4]
      have e5 : u 5 = .int .i64 ot := hd 5 (by decide)
      rw [e5]
      have e6 : u 6 = .int .i64 q := hd 6 (by decide)
      rw [e6]
      go_wp2_with fail
      refine (c_at _ r ot q 1 1 Y _ (h2.below hall) hY.out hbx hq.out (by rw [hl.out]; decide) (by decide)).mono ?_
      rintro e wn ⟨rfl, hbn⟩
      go_wp2
      exact ⟨_, by simp only [putAll, fillL, e4, e5, e6] <;> rfl, kept0 hbn, rfl⟩
    · have e3 : u 3 = .int .i64 (cellB r (ot * Y + q) 1) := hd 3 (by decide)
      rw [e3]
      have e7 : u 7 = .int .i64 (cellB r (ot * Y + q) 3) := hd 7 (by decide)
      rw [e7]
      go_wp2
      exact ⟨_, by simp only [putAll, fillL, e3, e7] <;> rfl, kept0 (Below.refl _ _), rfl⟩
    · exact absurd rfl hi
    · simp at ho
  · intro u g w5 hbw hR hAp
    have e8 : u 8 = .int .i64 (cellB r (ot * Y + q) 1 + cellB r (ot * Y + q) 3) := hR 8 (by decide) (by decide)
    clear hR hAp z0 z1 z2 z3
    simp only [putAll, fillL]
    rw [e8]
    go_wp2
    go_ret
    exact ⟨rfl, hA.trans (hbw.mono (by simp))⟩

theorem c_questions (v : Value) (r : BoxD) (w : World) (h : BoxR w v r) :
    Calls Try.prog 128 #[v] w fun e w' => e = .returned (.agg #[.int .i64 r.x, .int .i64 r.y]) ∧ Below w.heap.size w w' := by
  obtain ⟨v4, rfl, hr⟩ := id h
  obtain ⟨a4, k4, rfl, l4⟩ := hr.out
  have hA := (Below.refl w.heap.size w).alloc (Nat.le_refl _) (.cells #[.int .i64 r.x, .int .i64 r.y, .int .i64 r.w, .slice a4 r.r.length k4] 50)
  have pB : (w.alloc (.cells #[.int .i64 r.x, .int .i64 r.y, .int .i64 r.w, .slice a4 r.r.length k4] 50)).heap[w.heap.size]? = some (.cells #[.int .i64 r.x, .int .i64 r.y, .int .i64 r.w, .slice a4 r.r.length k4] 50 (0, 0)) := heap_alloc_at rfl
  obtain ⟨⟨z0, z1, z2, z3⟩, -⟩ := blk4 pB
  go_enter Try.func128, Try.ntmps128
  go_wp2
  refine bodyPost_ret (v := .agg #[.int .i64 r.x, .int .i64 r.y]) (by simp [results, Try.results128, go_sem]) rfl ⟨rfl, ?_⟩
  exact hA.alloc (by simp) _

theorem rg_succ {F : Nat → Bool} {k : Nat} (h : (List.range k).all F = true) (hk : F k = true) : (List.range (k + 1)).all F = true := by
  rw [List.range_succ, List.all_append, h]
  simp [hk]
theorem rg_false {F : Nat → Bool} {k n : Nat} (hn : k < n) (hk : F k = false) : (List.range n).all F = false := by
  rw [List.all_eq_false]
  exact ⟨k, List.mem_range.2 hn, by simp [hk]⟩

def qN (r : BoxD) (p : Nat) : Nat := if p = 0 then r.x.toNat else r.y.toNat
def onesV (r : BoxD) (p q o : Nat) : Int := if p = 0 then one0 r (q * r.y.toNat + o) else one1 r (o * r.y.toNat + q)
def loud3 (r : BoxD) (p q o : Nat) : Bool := onesV r p q o == onesV r p q 0
def loud2 (r : BoxD) (p q : Nat) : Bool := (List.range (qN r (1 - p))).all (loud3 r p q)
def loud1 (r : BoxD) (p : Nat) : Bool := (List.range (qN r p)).all (loud2 r p)
def loudB (r : BoxD) : Bool := !((List.range 2).all (loud1 r))
theorem loud_3 {r : BoxD} {p q o : Nat} (hp : p < 2) (hq : q < qN r p) (ho : o < qN r (1 - p)) (h : loud3 r p q o = false) : loudB r = true := by
  unfold loudB
  rw [rg_false hp (show loud1 r p = false from rg_false hq (show loud2 r p q = false from rg_false ho h))]
  rfl

theorem idx_lt {X Y q o : Nat} (hq : q < X) (ho : o < Y) : q * Y + o < X * Y := by
  have h1 : (q + 1) * Y ≤ X * Y := Nat.mul_le_mul_right Y hq
  rw [Nat.succ_mul] at h1
  omega

set_option maxRecDepth 100000 in
set_option maxHeartbeats 4000000 in
theorem c_loud (v : Value) (r : BoxD) (w : World) (h : BoxR w v r) (hbb : boxB r = true) :
    Calls Try.prog 121 #[v] w fun e w' => ∃ p q : Int, e = .returned (.tuple #[.int .i64 p, .int .i64 q, .bool (loudB r)]) ∧ Below w.heap.size w w' := by
  obtain ⟨v4, rfl, hr⟩ := id h
  obtain ⟨a4, k4, rfl, l4⟩ := hr.out
  have hA := (Below.refl w.heap.size w).alloc (Nat.le_refl _) (.cells #[.int .i64 r.x, .int .i64 r.y, .int .i64 r.w, .slice a4 r.r.length k4] 50)
  have pB : (w.alloc (.cells #[.int .i64 r.x, .int .i64 r.y, .int .i64 r.w, .slice a4 r.r.length k4] 50)).heap[w.heap.size]? = some (.cells #[.int .i64 r.x, .int .i64 r.y, .int .i64 r.w, .slice a4 r.r.length k4] 50 (0, 0)) := heap_alloc_at rfl
  obtain ⟨X, Y, hX, hY, x1, x3, y1, y3, hlen⟩ := boxB_len hbb
  have hqn0 : Hid (qN r 0 = X ∧ qN r (1 - 0) = Y) := Lib.hid (by simp [qN, hX, hY])
  have hqn1 : Hid (qN r 1 = Y ∧ qN r (1 - 1) = X) := Lib.hid (by simp [qN, hX, hY])
  have k0 : Hid (∀ q z, q < X → z < Y → ∀ w1, Below w.heap.size w w1 → Calls Try.prog 108 #[.agg #[.int .i64 r.x, .int .i64 r.y, .int .i64 r.w, .slice a4 r.r.length k4], .int .i64 0, .int .i64 (q : Nat), .int .i64 (z : Nat)] w1 fun e w' => e = .returned (.int .i64 (onesV r 0 q z)) ∧ Below w1.heap.size w1 w') :=
    Lib.hid fun q z hq hz w1 hw1 => by
      have := c_ones0 _ r q z Y w1 (h.below hw1) hY (by omega) hbb (by rw [hlen]; exact idx_lt hq hz)
      simpa [onesV, hY] using this
  have k1 : Hid (∀ q z, q < Y → z < X → ∀ w1, Below w.heap.size w w1 → Calls Try.prog 108 #[.agg #[.int .i64 r.x, .int .i64 r.y, .int .i64 r.w, .slice a4 r.r.length k4], .int .i64 1, .int .i64 (q : Nat), .int .i64 (z : Nat)] w1 fun e w' => e = .returned (.int .i64 (onesV r 1 q z)) ∧ Below w1.heap.size w1 w') :=
    Lib.hid fun q z hq hz w1 hw1 => by
      have := c_ones1 _ r q z Y w1 (h.below hw1) hY (by omega) hbb (by rw [hlen]; exact idx_lt hz hq)
      simpa [onesV, hY] using this
  rw [hX, hY] at h pB hA k0 k1 ⊢
  replace hlen := Lib.hid hlen
  replace hbb := Lib.hid hbb
  replace hX := Lib.hid hX
  replace hY := Lib.hid hY
  have h2 := h.below hA
  have hm0 : (.agg #[.int .i64 (X : Int), .int .i64 (Y : Int), .int .i64 r.w, .slice a4 r.r.length k4] : Value) = .agg #[.int .i64 r.x, .int .i64 r.y, .int .i64 r.w, .slice a4 r.r.length k4] := by rw [hX.out, hY.out]
  have hcq := c_questions _ r _ h2
  rw [hX.out, hY.out] at hcq
  replace hm0 := Lib.hid hm0
  obtain ⟨⟨z0, z1, z2, z3⟩, -⟩ := blk4 pB
  go_enter Try.func121, Try.ntmps121
  go_wp2_with fail
  refine hcq.mono ?_
  clear hcq h2
  rintro e wq ⟨rfl, hq0⟩
  have hQ0 := hq0.alloc (by exact hq0.size) (.cells #[.int .i64 (X : Int), .int .i64 (Y : Int)] 48)
  have hAQ := bstep hA hQ0
  have pQ : (wq.alloc (.cells #[.int .i64 (X : Int), .int .i64 (Y : Int)] 48)).heap[wq.heap.size]? = some (.cells #[.int .i64 (X : Int), .int .i64 (Y : Int)] 48 (0, 0)) := heap_alloc_at rfl
  have hszq := hQ0.size
  simp only [World.size_alloc] at hszq
  have hBs : Below (wq.heap.size + 1) (wq.alloc (.cells #[.int .i64 (X : Int), .int .i64 (Y : Int)] 48)) _ := Below.refl _ _
  clear z0 z1 z2 z3
  go_wp2_with fail
  go_loopw [11] (fun i wr => ∃ p : Nat, p ≤ 2 ∧ i = .int .i64 p ∧ Hid ((List.range p).all (loud1 r) = true) ∧ Below (wq.heap.size + 1) (wq.alloc (.cells #[.int .i64 (X : Int), .int .i64 (Y : Int)] 48)) wr) (fun i _ => 2 - (intOf i).toNat)
  case atStart => exact ⟨0, Nat.zero_le _, rfl, Lib.hid rfl, hBs⟩
  case round =>
    clear hBs
    obtain ⟨p, hp, rfl, HA, hB⟩ := hrel
    have hp3 : p = 0 ∨ p = 1 ∨ p = 2 := by omega
    rcases hp3 with rfl | rfl | rfl
    · have hqN := hqn0
      obtain ⟨⟨g0, g1⟩, -⟩ := blkP ((hB.block _ (by omega)).trans pQ)
      go_wp2_with fail
      clear g0 g1
      go_loopw [17] (fun i wr => ∃ q : Nat, q ≤ X ∧ i = .int .i64 q ∧ Hid ((List.range q).all (loud2 r 0) = true) ∧ Below (wq.heap.size + 1) (wq.alloc (.cells #[.int .i64 (X : Int), .int .i64 (Y : Int)] 48)) wr) (fun i _ => X - (intOf i).toNat)
      case atStart => exact ⟨0, Nat.zero_le _, rfl, Lib.hid rfl, hB⟩
      case round =>
        clear hB
        obtain ⟨q, hq, rfl, HA2, hB⟩ := hrel
        by_cases hqlt : q < X
        · obtain ⟨⟨g0, g1⟩, -⟩ := blkP ((hB.block _ (by omega)).trans pQ)
          go_wp2_with fail
          clear g0 g1
          go_loopw [24] (fun i wr => ∃ z : Nat, z ≤ Y ∧ i = .int .i64 z ∧ Hid ((List.range z).all (loud3 r 0 q) = true) ∧ Below (wq.heap.size + 1) (wq.alloc (.cells #[.int .i64 (X : Int), .int .i64 (Y : Int)] 48)) wr) (fun i _ => Y - (intOf i).toNat)
          case atStart => exact ⟨0, Nat.zero_le _, rfl, Lib.hid rfl, hB⟩
          case round =>
            clear hB
            obtain ⟨z, hz, rfl, HA3, hB⟩ := hrel
            by_cases hzlt : z < Y
            · have hall0 := hAQ.trans (hB.mono (by omega))
              have hszr := hB.size
              simp only [World.size_alloc] at hszr
              obtain ⟨⟨z0, z1, z2, z3⟩, -⟩ := blk4 ((hB.block _ (by omega)).trans (blk_later hQ0 pB))
              have kq := k0.out q z hqlt hzlt
              have kz := k0.out q 0 hqlt (by omega)
              have hF := fun (h : loud3 r 0 q z = false) => loud_3 (by decide) (by rw [hqN.out.1]; exact hqlt) (by rw [hqN.out.2]; exact hzlt) h
              replace kq := Lib.hid kq
              replace kz := Lib.hid kz
              have hval : Hid (loud3 r 0 q z = (onesV r 0 q z == onesV r 0 q 0)) := Lib.hid rfl
              replace hF := Lib.hid hF
              go_wp2_with fail
              refine wp_region_rk (by kernel_rfl) [none, none, none, none, none, none, none, none, none, none, none, none, none, none, none, none, none, none, none, none, none, none, none, none, none, none, none, some 0, some 1, some 2, some 3, some 4, some 5, some 6, some 7, some 8, some 9] 9 (by kernel_rfl) (by kernel_rfl) (by kernel_rfl) _ rfl w.heap.size [rkV (.agg #[.int .i64 (X : Int), .int .i64 (Y : Int), .int .i64 r.w, .slice a4 r.r.length k4]), rkV (.int .i64 0), rkV (.int .i64 q), rkV (.int .i64 z), rkV (.int .i64 (onesV r 0 q z)), rkV (.agg #[.int .i64 (X : Int), .int .i64 (Y : Int), .int .i64 r.w, .slice a4 r.r.length k4]), rkV (.int .i64 0), rkV (.int .i64 q), rkV (.int .i64 (onesV r 0 q 0))] _ rfl (by kernel_rfl) (by simp) ?_ ?_
              · intro i o ho hi u g ww hbw hd
                have hall : Below w.heap.size w ww := hall0.trans (hbw.mono (by omega))
                have hlow : w.heap.size ≤ ww.heap.size := hall.size
                obtain ⟨hcl, hfr⟩ := bcell hbw
                have y_z0 := (hcl _ _ (by omega)).trans z0
                have y_z1 := (hcl _ _ (by omega)).trans z1
                have y_z2 := (hcl _ _ (by omega)).trans z2
                have y_z3 := (hcl _ _ (by omega)).trans z3
                clear hcl hfr
                rcases i with _ | _ | _ | _ | _ | _ | _ | _ | _ | _ | i
                all_goals try obtain rfl := Option.some.inj ho
                all_goals try simp only [putAll, fillL]
                · go_wp2
                  exact ⟨_, rfl, kept0 (Below.refl _ _), rfl⟩
                · go_wp2
                  exact ⟨_, rfl, kept0 (Below.refl _ _), rfl⟩
                · go_wp2
                  exact ⟨_, rfl, kept0 (Below.refl _ _), rfl⟩
                · go_wp2
                  exact ⟨_, rfl, kept0 (Below.refl _ _), rfl⟩
                · have e0 : u 0 = .agg #[.int .i64 (X : Int), .int .i64 (Y : Int), .int .i64 r.w, .slice a4 r.r.length k4] := hd 0 (by decide)
                  rw [e0]
                  have e1 : u 1 = .int .i64 0 := hd 1 (by decide)
                  rw [e1]
                  have e2 : u 2 = .int .i64 q := hd 2 (by decide)
                  rw [e2]
                  have e3 : u 3 = .int .i64 z := hd 3 (by decide)
                  rw [e3]
                  go_wp2_with fail
                  refine (kq.out _ hall).mono ?_
                  rintro e wn ⟨rfl, hbn⟩
                  go_wp2
                  exact ⟨_, by simp only [putAll, fillL, e0, e1, e2, e3] <;> rfl, kept0 hbn, rfl⟩
                · go_wp2
                  exact ⟨_, rfl, kept0 (Below.refl _ _), rfl⟩
                · go_wp2
                  exact ⟨_, rfl, kept0 (Below.refl _ _), rfl⟩
                · go_wp2
                  exact ⟨_, rfl, kept0 (Below.refl _ _), rfl⟩
                · have e5 : u 5 = .agg #[.int .i64 (X : Int), .int .i64 (Y : Int), .int .i64 r.w, .slice a4 r.r.length k4] := hd 5 (by decide)
                  rw [e5]
                  have e6 : u 6 = .int .i64 0 := hd 6 (by decide)
                  rw [e6]
                  have e7 : u 7 = .int .i64 q := hd 7 (by decide)
                  rw [e7]
                  go_wp2_with fail
                  refine (kz.out _ hall).mono ?_
                  rintro e wn ⟨rfl, hbn⟩
                  go_wp2
                  exact ⟨_, by simp only [putAll, fillL, e5, e6, e7] <;> rfl, kept0 hbn, rfl⟩
                · exact absurd rfl hi
                · simp at ho
              · intro u g w5 hbw hR hAp
                have u4 : u 4 = .int .i64 (onesV r 0 q z) := hR 4 (by decide) (by decide)
                have u8 : u 8 = .int .i64 (onesV r 0 q 0) := hR 8 (by decide) (by decide)
                have hB5 := hB.trans (hbw.mono (by omega))
                have hall5 := hall0.trans (hbw.mono (by omega))
                clear hR hAp z0 z1 z2 z3 hbw hB hall0
                simp only [putAll, fillL]
                rw [u4, u8]
                clear u4 u8 kq kz
                cases hx : loud3 r 0 q z
                · have hL := Lib.hid (hF.out hx)
                  have hne : (onesV r 0 q z != onesV r 0 q 0) = true := by rw [hval.out] at hx; simpa using hx
                  replace hx := Lib.hid hx
                  go_wp2
                  refine bodyPost_ret (v := .tuple #[.int .i64 0, .int .i64 q, .bool true]) (by simp [results, Try.results121, go_sem]) rfl ⟨0, q, by rw [hL.out], hall5⟩
                · have hL := Lib.hid (rg_succ HA3.out hx)
                  have hne : (onesV r 0 q z != onesV r 0 q 0) = false := by rw [hval.out] at hx; simpa using hx
                  replace hx := Lib.hid hx
                  go_wp2
                  go_roundw
                  case rel => first | exact ⟨z + 1, by omega, by go_num, hL, hB5⟩ | ((repeat apply Exists.intro); exact ⟨⟨z + 1, by omega, rfl, hL, hB5⟩, rfl⟩)
                  case measure => simp [intOf]; omega
            · obtain rfl : z = Y := by omega
              have hL : Hid ((List.range (q + 1)).all (loud2 r 0) = true) := Lib.hid (rg_succ HA2.out (by unfold loud2; rw [hqN.out.2]; exact HA3.out))
              go_wp2
              go_roundw
              case rel => exact ⟨q + 1, by omega, by go_num, hL, hB⟩
              case measure => simp [intOf]; omega
        · obtain rfl : q = X := by omega
          have hL : Hid ((List.range (0 + 1)).all (loud1 r) = true) := Lib.hid (rg_succ HA.out (by unfold loud1; rw [hqN.out.1]; exact HA2.out))
          go_wp2
          go_roundw
          case rel => exact ⟨0 + 1, by omega, by go_num, hL, hB⟩
          case measure => simp [intOf]
    · have hqN := hqn1
      obtain ⟨⟨g0, g1⟩, -⟩ := blkP ((hB.block _ (by omega)).trans pQ)
      go_wp2_with fail
      clear g0 g1
      go_loopw [17] (fun i wr => ∃ q : Nat, q ≤ Y ∧ i = .int .i64 q ∧ Hid ((List.range q).all (loud2 r 1) = true) ∧ Below (wq.heap.size + 1) (wq.alloc (.cells #[.int .i64 (X : Int), .int .i64 (Y : Int)] 48)) wr) (fun i _ => Y - (intOf i).toNat)
      case atStart => exact ⟨0, Nat.zero_le _, rfl, Lib.hid rfl, hB⟩
      case round =>
        clear hB
        obtain ⟨q, hq, rfl, HA2, hB⟩ := hrel
        by_cases hqlt : q < Y
        · obtain ⟨⟨g0, g1⟩, -⟩ := blkP ((hB.block _ (by omega)).trans pQ)
          go_wp2_with fail
          clear g0 g1
          go_loopw [24] (fun i wr => ∃ z : Nat, z ≤ X ∧ i = .int .i64 z ∧ Hid ((List.range z).all (loud3 r 1 q) = true) ∧ Below (wq.heap.size + 1) (wq.alloc (.cells #[.int .i64 (X : Int), .int .i64 (Y : Int)] 48)) wr) (fun i _ => X - (intOf i).toNat)
          case atStart => exact ⟨0, Nat.zero_le _, rfl, Lib.hid rfl, hB⟩
          case round =>
            clear hB
            obtain ⟨z, hz, rfl, HA3, hB⟩ := hrel
            by_cases hzlt : z < X
            · have hall0 := hAQ.trans (hB.mono (by omega))
              have hszr := hB.size
              simp only [World.size_alloc] at hszr
              obtain ⟨⟨z0, z1, z2, z3⟩, -⟩ := blk4 ((hB.block _ (by omega)).trans (blk_later hQ0 pB))
              have kq := k1.out q z hqlt hzlt
              have kz := k1.out q 0 hqlt (by omega)
              have hF := fun (h : loud3 r 1 q z = false) => loud_3 (by decide) (by rw [hqN.out.1]; exact hqlt) (by rw [hqN.out.2]; exact hzlt) h
              replace kq := Lib.hid kq
              replace kz := Lib.hid kz
              have hval : Hid (loud3 r 1 q z = (onesV r 1 q z == onesV r 1 q 0)) := Lib.hid rfl
              replace hF := Lib.hid hF
              go_wp2_with fail
              refine wp_region_rk (by kernel_rfl) [none, none, none, none, none, none, none, none, none, none, none, none, none, none, none, none, none, none, none, none, none, none, none, none, none, none, none, some 0, some 1, some 2, some 3, some 4, some 5, some 6, some 7, some 8, some 9] 9 (by kernel_rfl) (by kernel_rfl) (by kernel_rfl) _ rfl w.heap.size [rkV (.agg #[.int .i64 (X : Int), .int .i64 (Y : Int), .int .i64 r.w, .slice a4 r.r.length k4]), rkV (.int .i64 1), rkV (.int .i64 q), rkV (.int .i64 z), rkV (.int .i64 (onesV r 1 q z)), rkV (.agg #[.int .i64 (X : Int), .int .i64 (Y : Int), .int .i64 r.w, .slice a4 r.r.length k4]), rkV (.int .i64 1), rkV (.int .i64 q), rkV (.int .i64 (onesV r 1 q 0))] _ rfl (by kernel_rfl) (by simp) ?_ ?_
              · intro i o ho hi u g ww hbw hd
                have hall : Below w.heap.size w ww := hall0.trans (hbw.mono (by omega))
                have hlow : w.heap.size ≤ ww.heap.size := hall.size
                obtain ⟨hcl, hfr⟩ := bcell hbw
                have y_z0 := (hcl _ _ (by omega)).trans z0
                have y_z1 := (hcl _ _ (by omega)).trans z1
                have y_z2 := (hcl _ _ (by omega)).trans z2
                have y_z3 := (hcl _ _ (by omega)).trans z3
                clear hcl hfr
                rcases i with _ | _ | _ | _ | _ | _ | _ | _ | _ | _ | i
                all_goals try obtain rfl := Option.some.inj ho
                all_goals try simp only [putAll, fillL]
                · go_wp2
                  exact ⟨_, rfl, kept0 (Below.refl _ _), rfl⟩
                · go_wp2
                  exact ⟨_, rfl, kept0 (Below.refl _ _), rfl⟩
                · go_wp2
                  exact ⟨_, rfl, kept0 (Below.refl _ _), rfl⟩
                · go_wp2
                  exact ⟨_, rfl, kept0 (Below.refl _ _), rfl⟩
                · have e0 : u 0 = .agg #[.int .i64 (X : Int), .int .i64 (Y : Int), .int .i64 r.w, .slice a4 r.r.length k4] := hd 0 (by decide)
                  rw [e0]
                  have e1 : u 1 = .int .i64 1 := hd 1 (by decide)
                  rw [e1]
                  have e2 : u 2 = .int .i64 q := hd 2 (by decide)
                  rw [e2]
                  have e3 : u 3 = .int .i64 z := hd 3 (by decide)
                  rw [e3]
                  go_wp2_with fail
                  refine (kq.out _ hall).mono ?_
                  rintro e wn ⟨rfl, hbn⟩
                  go_wp2
                  exact ⟨_, by simp only [putAll, fillL, e0, e1, e2, e3] <;> rfl, kept0 hbn, rfl⟩
                · go_wp2
                  exact ⟨_, rfl, kept0 (Below.refl _ _), rfl⟩
                · go_wp2
                  exact ⟨_, rfl, kept0 (Below.refl _ _), rfl⟩
                · go_wp2
                  exact ⟨_, rfl, kept0 (Below.refl _ _), rfl⟩
                · have e5 : u 5 = .agg #[.int .i64 (X : Int), .int .i64 (Y : Int), .int .i64 r.w, .slice a4 r.r.length k4] := hd 5 (by decide)
                  rw [e5]
                  have e6 : u 6 = .int .i64 1 := hd 6 (by decide)
                  rw [e6]
                  have e7 : u 7 = .int .i64 q := hd 7 (by decide)
                  rw [e7]
                  go_wp2_with fail
                  refine (kz.out _ hall).mono ?_
                  rintro e wn ⟨rfl, hbn⟩
                  go_wp2
                  exact ⟨_, by simp only [putAll, fillL, e5, e6, e7] <;> rfl, kept0 hbn, rfl⟩
                · exact absurd rfl hi
                · simp at ho
              · intro u g w5 hbw hR hAp
                have u4 : u 4 = .int .i64 (onesV r 1 q z) := hR 4 (by decide) (by decide)
                have u8 : u 8 = .int .i64 (onesV r 1 q 0) := hR 8 (by decide) (by decide)
                have hB5 := hB.trans (hbw.mono (by omega))
                have hall5 := hall0.trans (hbw.mono (by omega))
                clear hR hAp z0 z1 z2 z3 hbw hB hall0
                simp only [putAll, fillL]
                rw [u4, u8]
                clear u4 u8 kq kz
                cases hx : loud3 r 1 q z
                · have hL := Lib.hid (hF.out hx)
                  have hne : (onesV r 1 q z != onesV r 1 q 0) = true := by rw [hval.out] at hx; simpa using hx
                  replace hx := Lib.hid hx
                  go_wp2
                  refine bodyPost_ret (v := .tuple #[.int .i64 1, .int .i64 q, .bool true]) (by simp [results, Try.results121, go_sem]) rfl ⟨1, q, by rw [hL.out], hall5⟩
                · have hL := Lib.hid (rg_succ HA3.out hx)
                  have hne : (onesV r 1 q z != onesV r 1 q 0) = false := by rw [hval.out] at hx; simpa using hx
                  replace hx := Lib.hid hx
                  go_wp2
                  go_roundw
                  case rel => first | exact ⟨z + 1, by omega, by go_num, hL, hB5⟩ | ((repeat apply Exists.intro); exact ⟨⟨z + 1, by omega, rfl, hL, hB5⟩, rfl⟩)
                  case measure => simp [intOf]; omega
            · obtain rfl : z = X := by omega
              have hL : Hid ((List.range (q + 1)).all (loud2 r 1) = true) := Lib.hid (rg_succ HA2.out (by unfold loud2; rw [hqN.out.2]; exact HA3.out))
              go_wp2
              go_roundw
              case rel => exact ⟨q + 1, by omega, by go_num, hL, hB⟩
              case measure => simp [intOf]; omega
        · obtain rfl : q = Y := by omega
          have hL : Hid ((List.range (1 + 1)).all (loud1 r) = true) := Lib.hid (rg_succ HA.out (by unfold loud1; rw [hqN.out.1]; exact HA2.out))
          go_wp2
          go_roundw
          case rel => exact ⟨1 + 1, by omega, by go_num, hL, hB⟩
          case measure => simp [intOf]
    · have hL : Hid (loudB r = false) := Lib.hid (by unfold loudB; rw [HA.out]; rfl)
      have hall := hAQ.trans (hB.mono (by omega))
      go_wp2
      refine bodyPost_ret (v := .tuple #[.int .i64 0, .int .i64 0, .bool false]) (by simp [results, Try.results121, go_sem]) rfl ⟨0, 0, by rw [hL.out], hall⟩
end Go.Proofs.Ytjeaeninpmaoiaa
