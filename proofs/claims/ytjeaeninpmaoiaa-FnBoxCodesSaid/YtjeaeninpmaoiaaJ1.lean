/- What a slice reads as in memory, whoever made it, and what a call of the program makes; conditions: none. -/
import Derived.Test.YtjeaeninpmaoiaaRows
import Derived.WalkKit
import Derived.Lib.Hide
import Derived.Deep.QuietTactic
import Derived.BigQuiet
import Derived.Deep.LoopGhost
import Derived.Deep.OwnRows
import Derived.WalkSmall
import Derived.OwnWalk
namespace Go.Proofs.Ytjeaeninpmaoiaa
open Go.RowKit

theorem info_int : (Try.prog.info? 3).map (fun i => (i.zero, i.size, i.bytes)) = some (some (.int .i64 0), 1, 8) := by kernel_rfl

/-- the slice value v reads, in w, as the one-cell values us -/
def Sl (w : World) (v : Value) (us : List Value) : Prop :=
  ∃ a cap, v = .slice a us.length cap ∧ (us.length ≤ cap ∧ cap ≤ 9223372036854775807) ∧
    ∀ j u, us[j]? = some u → ∃ b off, a = some ⟨b, off, none⟩ ∧ b < w.heap.size ∧ w.cell? ⟨b, off + j, none⟩ = some u

/-- .. as integers -/
def Ints (w : World) (v : Value) (xs : List Int) : Prop := Sl w v (xs.map (Value.int .i64))

theorem Ints.out {w : World} {v : Value} {xs : List Int} (h : Ints w v xs) : ∃ a cap, v = .slice a xs.length cap ∧ xs.length ≤ 9223372036854775807 ∧
    ∀ j (hj : j < xs.length), ∃ b off, a = some ⟨b, off, none⟩ ∧ b < w.heap.size ∧ w.cell? ⟨b, off + j, none⟩ = some (.int .i64 xs[j]) := by
  obtain ⟨a, cap, rfl, hl, hc⟩ := h
  refine ⟨a, cap, by simp, by have := hl.1; have := hl.2; simp only [List.length_map] at *; omega, fun j hj => hc j _ ?_⟩
  simp [List.getElem?_eq_getElem hj]

theorem Sl.below {w w' : World} {v : Value} {us : List Value} (h : Sl w v us) (hb : Below w.heap.size w w') : Sl w' v us := by
  obtain ⟨a, cap, rfl, hl, hc⟩ := h
  refine ⟨a, cap, rfl, hl, fun j u hu => ?_⟩
  obtain ⟨b, off, e, hlt, hcell⟩ := hc j u hu
  exact ⟨b, off, e, Nat.lt_of_lt_of_le hlt hb.size, (hb.cell (p := ⟨b, off + j, none⟩) hlt).trans hcell⟩
theorem Ints.below {w w' : World} {v : Value} {xs : List Int} (h : Ints w v xs) (hb : Below w.heap.size w w') : Ints w' v xs := Sl.below h hb

/-- .. and its capacity -/
theorem Ints.cap {w : World} {a : Option Addr} {n cap : Nat} {xs : List Int} (h : Ints w (.slice a n cap) xs) : n = xs.length ∧ n ≤ cap ∧ cap ≤ 9223372036854775807 := by
  obtain ⟨a', cap', e, hl, -⟩ := h
  simp only [Value.slice.injEq, List.length_map] at e hl
  obtain ⟨rfl, rfl, rfl⟩ := e
  exact ⟨rfl, hl⟩

/-- v is a slice at the head of a block from B on, of elements of type E, one cell each, nothing frozen -/
def OwnS (w : World) (B : Nat) (E : TypeId) (v : Value) (us : List Value) : Prop := w.ownsRow B E 1 v us.length us ∧ us.length ≤ 1099511627776
def OwnI (w : World) (B : Nat) (v : Value) (xs : List Int) : Prop := OwnS w B 3 v (xs.map (Value.int .i64))

theorem OwnS.sl {w : World} {B : Nat} {E : TypeId} {v : Value} {us : List Value} (h : OwnS w B E v us) : Sl w v us := by
  obtain ⟨h, hl⟩ := h
  rcases h.2 with ⟨hv, h0⟩ | ⟨g, cap, cur, hv, hg, hh, hn, hc, hs, ht⟩
  · have : us = [] := List.length_eq_zero_iff.1 h0
    subst this; subst hv
    exact ⟨none, 0, rfl, ⟨Nat.zero_le _, by omega⟩, fun j u hu => by simp at hu⟩
  · subst hv
    refine ⟨_, cap, rfl, ⟨hn, by unfold maxLen at hc; omega⟩, fun j u hu => ⟨g, 0, rfl, (Array.getElem?_eq_some_iff.1 hh).1, ?_⟩⟩
    have := h.cells (g := g) rfl j u hu
    rw [Addr.add_lit] at this
    exact this
theorem OwnI.ints {w : World} {B : Nat} {v : Value} {xs : List Int} (h : OwnI w B v xs) : Ints w v xs := OwnS.sl h
theorem OwnI.le {w : World} {B : Nat} {v : Value} {xs : List Int} (h : OwnI w B v xs) : xs.length ≤ 1099511627776 := by simpa using h.2

theorem OwnS.mono {w : World} {B B' : Nat} {E : TypeId} {v : Value} {us : List Value} (h : OwnS w B E v us) (hB : B' ≤ B) : OwnS w B' E v us := by
  refine ⟨⟨h.1.1, ?_⟩, h.2⟩
  rcases h.1.2 with h' | ⟨g, cap, cur, e, hg, r⟩
  · exact .inl h'
  · exact .inr ⟨g, cap, cur, e, by omega, r⟩
theorem OwnI.mono {w : World} {B B' : Nat} {v : Value} {xs : List Int} (h : OwnI w B v xs) (hB : B' ≤ B) : OwnI w B' v xs := OwnS.mono h hB

/-- whatever leaves v's own block as it is -/
theorem OwnS.kept {w w' : World} {B : Nat} {E : TypeId} {v : Value} {us : List Value} (h : OwnS w B E v us) (hk : ∀ g, v.ownBlock = some g → w'.heap[g]? = w.heap[g]?) : OwnS w' B E v us := by
  refine ⟨⟨h.1.1, ?_⟩, h.2⟩
  rcases h.1.2 with h' | ⟨g, cap, cur, rfl, hg, hh, r⟩
  · exact .inl h'
  · exact .inr ⟨g, cap, cur, rfl, hg, (hk g rfl).trans hh, r⟩
theorem OwnS.lt {w : World} {B : Nat} {E : TypeId} {v : Value} {us : List Value} (h : OwnS w B E v us) : ∀ g, v.ownBlock = some g → B ≤ g ∧ g < w.heap.size := h.1.lt
theorem OwnS.below {w w' : World} {B C : Nat} {E : TypeId} {v : Value} {us : List Value} (h : OwnS w B E v us) (hb : Below C w w') (hC : w.heap.size ≤ C) : OwnS w' B E v us :=
  h.kept fun g hg => hb.block g (by have := h.lt g hg; omega)
theorem OwnI.below {w w' : World} {B : Nat} {v : Value} {xs : List Int} (h : OwnI w B v xs) (hb : Below w.heap.size w w') : OwnI w' B v xs := OwnS.below h hb (Nat.le_refl _)

theorem OwnI.grown {w w' : World} {B : Nat} {v : Value} {xs : List Int} {row : Option Nat} (h : OwnI w B v xs) (hg : w.grownBy w' row) (hne : ∀ g, v.ownBlock = some g → row ≠ some g) : OwnI w' B v xs :=
  OwnS.kept h fun g e => hg.block g (OwnS.lt h g e).2 fun e' => hne g e e'.symm
/-- where v's block lies: between two numbers -/
def In (v : Value) (a b : Nat) : Prop := ∀ g, v.ownBlock = some g → a ≤ g ∧ g < b
theorem OwnI.isIn {w : World} {B : Nat} {v : Value} {xs : List Int} (h : OwnI w B v xs) : In v B w.heap.size := OwnS.lt h
theorem OwnI.grownIn {w w' : World} {B a b a' b' : Nat} {v u : Value} {xs : List Int} (h : OwnI w B v xs) (hg : w.grownBy w' u.ownBlock) (hv : In v a b) (hu : In u a' b') (hd : b ≤ a' ∨ b' ≤ a) : OwnI w' B v xs :=
  h.grown hg fun g e e' => by have := hv g e; have := hu g e'; omega

/-- the block of an owned slice holds elements of that type: two slices of two types do not share it -/
theorem OwnS.block {w : World} {B : Nat} {E : TypeId} {v : Value} {us : List Value} (h : OwnS w B E v us) {g : Nat} (hg : v.ownBlock = some g) : ∃ cur, w.heap[g]? = some (.cells cur E (0, 0)) := by
  rcases h.1.2 with ⟨rfl, _⟩ | ⟨g', cap, cur, rfl, _, hh, _⟩
  · simp [Value.ownBlock] at hg
  · simp only [Value.ownBlock, Option.some.injEq] at hg
    subst hg
    exact ⟨cur, hh⟩
theorem OwnS.apart {w : World} {B B' : Nat} {E E' : TypeId} {v v' : Value} {us us' : List Value} (h : OwnS w B E v us) (h' : OwnS w B' E' v' us') (hE : E ≠ E') {g : Nat} (hg : v.ownBlock = some g) : v'.ownBlock ≠ some g := by
  intro hg'
  obtain ⟨c, hc⟩ := h.block hg
  obtain ⟨c', hc'⟩ := h'.block hg'
  rw [hc] at hc'
  injection hc' with e
  injection e with _ e2
  exact hE e2

theorem OwnI.shape {w : World} {B : Nat} {v : Value} {xs : List Int} (h : OwnI w B v xs) : (v = .slice none 0 0 ∧ xs = []) ∨ ∃ g cap, v = .slice (some ⟨g, 0, none⟩) xs.length cap ∧ B ≤ g ∧ g < w.heap.size := by
  rcases h.1.2 with ⟨hv, h0⟩ | ⟨g, cap, cur, hv, hg, hh, hn, hc, hs, ht⟩
  · exact .inl ⟨hv, by simpa using h0⟩
  · exact .inr ⟨g, cap, by simpa using hv, hg, (Array.getElem?_eq_some_iff.1 hh).1⟩

/-- cells of an owned slice at its literal place -/
theorem OwnI.cell {w : World} {B g n cap : Nat} {xs : List Int} (h : OwnI w B (.slice (some ⟨g, 0, none⟩) n cap) xs) (j : Nat) (hj : j < xs.length) : w.cell? ⟨g, j, none⟩ = some (.int .i64 xs[j]) ∧ w.frozen? ⟨g, j, none⟩ = false := by
  have hn : n = (xs.map (Value.int .i64)).length := by
    rcases h.1.2 with ⟨hv, _⟩ | ⟨g, cap, cur, hv, _⟩
    · simp at hv
    · simp only [Value.slice.injEq] at hv; exact hv.2.1
  have h1 := h.1
  rw [hn] at h1
  refine ⟨?_, h1.frozenAt j⟩
  rw [h1.cellAt j (by simpa using hj)]
  simp [List.getElem?_eq_getElem hj]

theorem OwnI.set {w : World} {B g n cap : Nat} {xs : List Int} (h : OwnI w B (.slice (some ⟨g, 0, none⟩) n cap) xs) (j : Nat) (y : Int) :
    OwnI (w.setCell ⟨g, j, none⟩ (.int .i64 y)) B (.slice (some ⟨g, 0, none⟩) n cap) (xs.set j y) ∧ w.grownBy (w.setCell ⟨g, j, none⟩ (.int .i64 y)) (some g) := by
  have hn : n = (xs.map (Value.int .i64)).length := by
    rcases h.1.2 with ⟨hv, _⟩ | ⟨g, cap, cur, hv, _⟩
    · simp at hv
    · simp only [Value.slice.injEq] at hv; exact hv.2.1
  have h1 := h.1
  rw [hn] at h1 ⊢
  obtain ⟨h2, h3⟩ := h1.stored j (.int .i64 y)
  refine ⟨⟨?_, by simpa using h.2⟩, h3⟩
  rw [List.map_set]
  simpa using h2

theorem grown_trans {a b c : World} {row : Option Nat} (h : a.grownBy b none) (k : b.grownBy c row) : a.grownBy c row :=
  ⟨k.os.trans h.os, k.tape.trans h.tape, k.output.trans h.output, Nat.le_trans h.size k.size, fun i hi hr => (k.block i (Nat.lt_of_lt_of_le hi h.size) hr).trans (h.block i hi (by simp))⟩

/-- make([]int, n) -/
theorem wp_make_int {ops : Array Oper} {rest : List Oper} {o : Oper} {a : Act} {Q : Exit → Act → World → Prop} (w : World) (hgd : o.guard = none) (l c : Operand)
    (ho : o.op = .makeSlice 26 l c) (n : Nat) (hl : a.eval l = .int .i64 (n : Int)) (hc : a.eval c = .int .i64 (n : Int)) (hn : n ≤ 1099511627776)
    (h : ∀ w', OwnI w' w.heap.size (.slice (some ⟨w.heap.size, 0, none⟩) n n) (List.replicate n 0) → Below w.heap.size w w' → w.heap.size < w'.heap.size → wpList Try.prog ops Q rest (a.put o.dst (.slice (some ⟨w.heap.size, 0, none⟩) n n)) w') :
    wpList Try.prog ops Q (o :: rest) a w := by
  obtain ⟨i0, hi, hz0, hz1, hz2⟩ := info_parts info_int
  refine wpList_make_full w hgd l c 26 ho w.heap.size 3 i0 (.int .i64 0) 1 Try.underlying26 hi hz0 hz1 .i64 .i64 _ _ n hl hc rfl rfl (by rw [hz2]; omega) (by unfold maxLen; omega) (Nat.le_refl _) fun w' hown hg => ?_
  refine h w' ⟨?_, by simpa using hn⟩ ((Below.refl _ _).grown hg (Nat.le_refl _) (fun k e => by cases e)) (hown.lt _ rfl).2
  rw [show (madeCells (Value.int IntKind.i64 0).cells (n * 1)).toList = (List.replicate n (0 : Int)).map (Value.int .i64) by simp [Value.cells, toList_madeCells_one]] at hown
  simpa using hown

/-- out = append(out, n): the world in which the one new cell has been laid -/
theorem wp_append_int {ops : Array Oper} {rest : List Oper} {o : Oper} {a : Act} {Q : Exit → Act → World → Prop} (w : World) (n : Int) (hgd : o.guard = none) (s x : Operand)
    (ho : o.op = .call { callee := .builtin .append, args := #[s, x], argTypes := #[26, 26] }) (B : Nat) (v : Value) (xs : List Int) (hs : a.eval s = v) (hown : OwnI w B v xs)
    {g : Nat} (hx : a.eval x = .slice (some ⟨g, 0, none⟩) 1 1) (hg : g = w.heap.size) (hlen : xs.length < 1099511627776) (hB : B ≤ w.heap.size)
    (h : ∀ v' w', OwnI w' B v' (xs ++ [n]) → w.grownBy w' v.ownBlock → Below B w w' → v' ≠ .slice none 0 0 → wpList Try.prog ops Q rest (a.put o.dst v') w') :
    wpList Try.prog ops Q (o :: rest) a (w.alloc (.cells #[.int .i64 n] 3)) := by
  subst hg
  obtain ⟨i0, hi, hz0, hz1, hz2⟩ := info_parts info_int
  have hal := World.grownBy_alloc w (.cells #[.int .i64 n] 3) none
  refine wpList_append_own _ hgd s x 26 ho B 3 i0 (.int .i64 0) 1 8 Try.underlying26 hi hz0 hz1 hz2 rfl (by decide) v xs.length (xs.map (Value.int .i64)) hs (by simpa using hown.1.alloc _) ⟨w.heap.size, 0, none⟩ 1 1 [.int .i64 n] hx rfl ?_ ?_
    (by unfold maxLen; omega) (by omega) (by simp; omega) fun v' w' h1 h2 h3 => ?_
  · intro j u hu
    rw [Addr.add_lit, World.cell?_alloc_at _ _ _ _ rfl]
    cases j with
    | zero => simpa using hu
    | succ j => simp at hu
  · intro u hu; simp at hu; subst hu; rfl
  · have hgr := grown_trans hal h2
    refine h v' w' ⟨by simpa using h1, by simp; omega⟩ hgr ((Below.refl _ _).grown hgr hB fun k hk => (hown.lt k hk).1) fun e => ?_
    have := (h3.1 e).2
    simp at this

/-- an empty slice that has just been laid -/
theorem own_empty (w : World) (B : Nat) (hB : B ≤ w.heap.size) : OwnI (w.alloc (.cells #[] 3)) B (.slice (some ⟨w.heap.size, 0, none⟩) 0 0) [] :=
  ⟨by simpa using World.ownsRow_made w #[] 0 hB (Nat.zero_le _) (by simp), by simp⟩
/-- a literal slice -/
theorem own_lit (w : World) (B : Nat) (xs : List Int) (cs : Array Value) (hcs : cs.toList = xs.map (Value.int .i64)) (hB : B ≤ w.heap.size) (hl : xs.length ≤ 1099511627776) : OwnI (w.alloc (.cells cs 3)) B (.slice (some ⟨w.heap.size, 0, none⟩) xs.length xs.length) xs := by
  have hsz : cs.size = xs.length := by rw [← Array.length_toList, hcs]; simp
  have := World.ownsRow_lit (e := 3) (size := 1) w cs xs.length hB (by unfold maxLen; omega) (by omega)
  rw [hcs] at this
  exact ⟨by simpa using this, by simpa using hl⟩
theorem own_nil (w : World) (B : Nat) : OwnI w B (.slice none 0 0) [] := ⟨by simpa using World.ownsRow_nil w B 3 1, by simp⟩

/-- element j of a slice that reads as integers, at the slice's own words -/
theorem Ints.at {w : World} {a : Option Addr} {n cap : Nat} {xs : List Int} (h : Ints w (.slice a n cap) xs) (j : Nat) (hj : j < xs.length) : ∃ b off, a = some ⟨b, off, none⟩ ∧ b < w.heap.size ∧ w.cell? ⟨b, off + j, none⟩ = some (.int .i64 xs[j]) := by
  obtain ⟨a', cap', e, hl, hc⟩ := h.out
  simp only [Value.slice.injEq] at e
  obtain ⟨rfl, rfl, rfl⟩ := e
  exact hc j hj

/-- a quiet callee in a region that draws its order -/
theorem quiet_add_left {P : Program} {f : FuncId} {args : Array Value} {w : World} {a n : Nat} {v : Value}
    (h : Calls P f args (w.drewN (a + n)) fun e w' => e = .returned v ∧ w.drewN (a + n) = w') :
    Calls P f args (w.drewN (a + n)) fun e w'' => e = .returned v ∧ ∃ m, w'' = w.drewN (a + m) :=
  h.mono fun _ _ ⟨he, hm⟩ => ⟨he, n, hm.symm⟩
theorem quiet_left {P : Program} {f : FuncId} {args : Array Value} {w : World} {n : Nat} {v : Value}
    (h : Calls P f args (w.drewN n) fun e w' => e = .returned v ∧ w.drewN n = w') : Calls P f args (w.drewN n) fun e w'' => e = .returned v ∧ ∃ m, w'' = w.drewN m :=
  h.mono fun _ _ ⟨he, hm⟩ => ⟨he, n, hm.symm⟩

theorem quiet_addN {P : Program} {f : FuncId} {args : Array Value} {w : World} {a n : Nat} {v : Value}
    (h : Calls P f args (w.drewN (a + n)) fun e w' => e = .returned v ∧ ∃ m, w' = (w.drewN (a + n)).drewN m) :
    Calls P f args (w.drewN (a + n)) fun e w'' => e = .returned v ∧ ∃ m, w'' = w.drewN (a + m) :=
  h.mono fun _ _ ⟨he, m, hm⟩ => ⟨he, n + m, by rw [hm, World.drewN_drewN, Nat.add_assoc]⟩
theorem quiet_N {P : Program} {f : FuncId} {args : Array Value} {w : World} {n : Nat} {v : Value}
    (h : Calls P f args (w.drewN n) fun e w' => e = .returned v ∧ ∃ m, w' = (w.drewN n).drewN m) : Calls P f args (w.drewN n) fun e w'' => e = .returned v ∧ ∃ m, w'' = w.drewN m :=
  h.mono fun _ _ ⟨he, m, hm⟩ => ⟨he, n + m, by rw [hm, World.drewN_drewN]⟩

theorem heap_alloc_at {w : World} {o : Obj} {k : Nat} (hk : k = w.heap.size) : (w.alloc o).heap[k]? = some o := by subst hk; exact heap_alloc_new _ _
/-- a block of three cells -/
theorem blk3 {w : World} {b : Nat} {v1 v2 v3 : Value} {t : TypeId} (h : w.heap[b]? = some (.cells #[v1, v2, v3] t (0, 0))) :
    (w.cell? ⟨b, 0, none⟩ = some v1 ∧ w.cell? ⟨b, 1, none⟩ = some v2 ∧ w.cell? ⟨b, 2, none⟩ = some v3) ∧ (w.frozen? ⟨b, 0, none⟩ = false ∧ w.frozen? ⟨b, 1, none⟩ = false ∧ w.frozen? ⟨b, 2, none⟩ = false) := by
  refine ⟨⟨?_, ?_, ?_⟩, ?_, ?_, ?_⟩ <;> simp [World.cell?, World.frozen?, h]
theorem blk_later {w w' : World} {b : Nat} {o : Obj} (hb : Below w.heap.size w w') (h : w.heap[b]? = some o) : w'.heap[b]? = some o :=
  (hb.block b (Array.getElem?_eq_some_iff.1 h).1).trans h
theorem blk_set {w : World} {g j : Nat} {c : Array Value} {t : TypeId} {f : Nat × Nat} {v : Value} (h : w.heap[g]? = some (.cells c t f)) : (w.setCell ⟨g, j, none⟩ v).heap[g]? = some (.cells (c.setIfInBounds j v) t f) := by
  simp [World.setCell, Array.getElem?_modify, h]
theorem blk_other {w : World} {g b j : Nat} {o : Obj} {v : Value} (h : w.heap[b]? = some o) (hne : b ≠ g) : (w.setCell ⟨g, j, none⟩ v).heap[b]? = some o :=
  (Below.heap_setCell w ⟨g, j, none⟩ v b hne).trans h

/-- what was there reads as before: two rules for the walk -/
theorem bcell {W w1 : World} (hb : Below W.heap.size W w1) : (∀ b o, b < W.heap.size → w1.cell? ⟨b, o, none⟩ = W.cell? ⟨b, o, none⟩) ∧ (∀ b o, b < W.heap.size → w1.frozen? ⟨b, o, none⟩ = W.frozen? ⟨b, o, none⟩) :=
  ⟨fun b o h => hb.cell (p := ⟨b, o, none⟩) h, fun b o h => hb.frozen (p := ⟨b, o, none⟩) h⟩

theorem bstep {w w1 w2 : World} (h : Below w.heap.size w w1) (k : Below w1.heap.size w1 w2) : Below w.heap.size w w2 := h.trans (k.mono h.size)

theorem take_all {α : Type} (p : α → Bool) (xs : List α) (k : Nat) (hk : k < xs.length) (h : (xs.take k).all p = true) (hp : p xs[k] = true) : (xs.take (k+1)).all p = true := by
  rw [List.take_succ_eq_append_getElem hk, List.all_append, h]; simp [hp]
theorem all_false {α : Type} (p : α → Bool) (xs : List α) (k : Nat) (hk : k < xs.length) (hp : p xs[k] = false) : xs.all p = false := by
  rw [Bool.eq_false_iff]; intro h; rw [List.all_eq_true] at h; have := h _ (List.getElem_mem hk); simp [hp] at this

end Go.Proofs.Ytjeaeninpmaoiaa
/- The contracts of the smallest functions and of the laws' own helpers on lists of integers; conditions: none. -/
namespace Go.Proofs.Ytjeaeninpmaoiaa
open Go.RowKit

def inB (a b n : Int) : Bool := decide (a ≤ n) && decide (n ≤ b)

theorem c_within (n a b : Int) (w : World) :
    Calls Try.prog 48 #[.int .i64 n, .int .i64 a, .int .i64 b] w fun e w' => e = .returned (.bool (inB a b n)) ∧ w = w' := by
  by_cases h1 : a ≤ n <;> by_cases h2 : n ≤ b
  all_goals
    have hF : Hid (inB a b n = (decide (a ≤ n) && decide (n ≤ b))) := Lib.hid rfl
    go_enter Try.func48, Try.ntmps48
    go_wp2
    go_ret
    exact ⟨by rw [hF.out]; simp [h1, h2], rfl⟩

theorem c_l1In (n a b : Int) (w : World) :
    Calls Try.prog 51 #[.int .i64 n, .int .i64 a, .int .i64 b] w fun e w' => e = .returned (.bool (inB a b n)) ∧ w = w' := by
  by_cases h1 : a ≤ n <;> by_cases h2 : n ≤ b
  all_goals
    have hF : Hid (inB a b n = (decide (a ≤ n) && decide (n ≤ b))) := Lib.hid rfl
    go_enter Try.func51, Try.ntmps51
    go_wp2
    go_ret
    exact ⟨by rw [hF.out]; simp [h1, h2], rfl⟩

theorem inB_iff {a b n : Int} : inB a b n = true ↔ a ≤ n ∧ n ≤ b := by simp [inB]

theorem c_allWithin (v : Value) (xs : List Int) (a b : Int) (w : World) (h : Ints w v xs) :
    Calls Try.prog 70 #[v, .int .i64 a, .int .i64 b] w fun e w' => e = .returned (.bool (xs.all (inB a b))) ∧ w = w' := by
  obtain ⟨ad, cap, rfl, hl, -⟩ := h.out
  go_enter Try.func70, Try.ntmps70
  go_wp2
  go_loop [11, 8] (fun i _ => ∃ k : Nat, k ≤ xs.length ∧ i = .int .i64 k ∧ Hid ((xs.take k).all (inB a b) = true)) (fun i _ => xs.length - (intOf i).toNat)
  case atStart => exact ⟨0, Nat.zero_le _, rfl, rfl⟩
  case round =>
    obtain ⟨k, hk, rfl, HA⟩ := hrel
    by_cases hlt : k < xs.length
    · obtain ⟨bl, off, rfl, hb, hcell⟩ := h.at k hlt
      cases hin : inB a b xs[k]
      · have hF := Lib.hid (all_false (inB a b) xs k hlt hin)
        go_wp2_with (go_at_call 48; refine (c_within _ _ _ _).mono ?_; rintro e w' ⟨rfl, rfl⟩)
        go_ret
        exact ⟨by rw [hF.out]; rfl, rfl⟩
      · have hF := Lib.hid (take_all (inB a b) xs k hlt HA.out hin)
        go_wp2_with (go_at_call 48; refine (c_within _ _ _ _).mono ?_; rintro e w' ⟨rfl, rfl⟩)
        go_round
        case rel => exact ⟨k + 1, by omega, by go_num, hF⟩
        case measure => simp [intOf]; omega
    · obtain rfl : k = xs.length := by omega
      have hF := Lib.hid (by simpa using HA.out : xs.all (inB a b) = true)
      go_wp2
      go_ret
      exact ⟨by rw [hF.out]; rfl, rfl⟩

/-- n bits -/
def bitsB (n : Int) (xs : List Int) : Bool := (xs.length : Int) == n && xs.all (inB 0 1)
theorem c_l2Bits (v : Value) (xs : List Int) (n : Int) (w : World) (h : Ints w v xs) :
    Calls Try.prog 92 #[v, .int .i64 n] w fun e w' => e = .returned (.bool (bitsB n xs)) ∧ w = w' := by
  obtain ⟨ad, cap, rfl, hl, -⟩ := h.out
  go_enter Try.func92, Try.ntmps92
  go_wp2
  go_loop [5] (fun i => ∃ k : Nat, k ≤ xs.length ∧ i = .int .i64 k ∧ Hid ((xs.take k).all (inB 0 1) = true)) (fun i => xs.length - (intOf i).toNat)
  case atStart => exact ⟨0, Nat.zero_le _, rfl, rfl⟩
  case round =>
    obtain ⟨k, hk, rfl, HA⟩ := hrel
    by_cases hlt : k < xs.length
    · obtain ⟨bl, off, rfl, hb, hcell⟩ := h.at k hlt
      cases hin : inB 0 1 xs[k]
      · have hF : Hid (bitsB n xs = false) := Lib.hid (by unfold bitsB; rw [all_false (inB 0 1) xs k hlt hin]; simp)
        go_wp2_with (go_at_call 51; refine (c_l1In _ _ _ _).mono ?_; rintro e w' ⟨rfl, rfl⟩)
        go_ret
        exact ⟨by rw [hF.out]; rfl, rfl⟩
      · have hF := Lib.hid (take_all (inB 0 1) xs k hlt HA.out hin)
        go_wp2_with (go_at_call 51; refine (c_l1In _ _ _ _).mono ?_; rintro e w' ⟨rfl, rfl⟩)
        go_round
        case rel => exact ⟨k + 1, by omega, by go_num, hF⟩
        case measure => simp [intOf]; omega
    · obtain rfl : k = xs.length := by omega
      have hF : Hid (bitsB n xs = ((xs.length : Int) == n)) := Lib.hid (by unfold bitsB; rw [show xs.all (inB 0 1) = true by simpa using HA.out]; simp)
      go_wp2
      go_ret
      exact ⟨by rw [hF.out]; rfl, rfl⟩

theorem replicate_set (xs : List Int) (k : Nat) (h : k < xs.length) : (xs.take k ++ List.replicate (xs.length - k) 0).set k xs[k] = xs.take (k+1) ++ List.replicate (xs.length - (k+1)) 0 := by
  have e : xs.length - k = (xs.length - (k+1)) + 1 := by omega
  have e2 : (xs.take k).length = k := by simp; omega
  rw [List.set_append_right _ _ (by omega), e, List.replicate_succ, e2, Nat.sub_self, List.set_cons_zero, List.take_succ_eq_append_getElem h, List.append_assoc]
  rfl



/-- k, k + 1, .. : what 'mark' writes -/
def marks (k : Int) (n : Nat) : List Int := (List.range n).map fun i : Nat => k + (i : Int)
theorem marks_len (k : Int) (n : Nat) : (marks k n).length = n := by simp [marks]
theorem marks_succ (k : Int) (n : Nat) : marks k (n + 1) = marks k n ++ [k + (n : Int)] := by simp [marks, List.range_succ]
theorem mark_set (k : Int) (xs : List Int) (j : Nat) (h : j < xs.length) : (marks k j ++ xs.drop j).set j (k + (j : Int)) = marks k (j + 1) ++ xs.drop (j + 1) := by
  rw [List.set_append_right _ _ (by rw [marks_len]; exact Nat.le_refl _), marks_len, Nat.sub_self, List.drop_eq_getElem_cons h, List.set_cons_zero, marks_succ, List.append_assoc]
  rfl
theorem marks_get (k : Int) (n j : Nat) (h : j < (marks k n).length) : (marks k n)[j] = k + (j : Int) := by simp [marks]



theorem mark_below {w w' : World} {B : Nat} {v : Value} {xs : List Int} (h : OwnI w B v xs) (hg : w.grownBy w' v.ownBlock) (hB : B ≤ w.heap.size) : Below B w w' :=
  (Below.refl B w).grown hg hB fun k hk => (OwnS.lt h k hk).1

theorem sum_take_succ (xs : List Int) (k : Nat) (h : k < xs.length) : (xs.take (k+1)).sum = (xs.take k).sum + xs[k] := by
  rw [List.take_succ_eq_append_getElem h, List.sum_append]; simp
theorem sum_le (xs : List Int) (h : ∀ x ∈ xs, 0 ≤ x ∧ x ≤ 1000) : 0 ≤ xs.sum ∧ xs.sum ≤ 1000 * xs.length := by
  induction xs with
  | nil => simp
  | cons x l ih =>
    have h1 := h x (by simp)
    have h2 := ih fun y hy => h y (by simp [hy])
    simp only [List.sum_cons, List.length_cons]
    omega
theorem sum_take_le (xs : List Int) (h : ∀ x ∈ xs, 0 ≤ x ∧ x ≤ 1000) (k : Nat) : 0 ≤ (xs.take k).sum ∧ (xs.take k).sum ≤ 1000 * k := by
  have h1 := sum_le (xs.take k) fun x hx => h x (List.mem_of_mem_take hx)
  have h2 := List.length_take_le k xs
  omega

theorem c_total (v : Value) (xs : List Int) (w : World) (h : Ints w v xs) (hb : ∀ x ∈ xs, 0 ≤ x ∧ x ≤ 1000) (hx : xs.length ≤ 100000) :
    Calls Try.prog 62 #[v] w fun e w' => e = .returned (.int .i64 xs.sum) ∧ w = w' := by
  obtain ⟨ad, cap, rfl, hl, -⟩ := h.out
  have hb := Lib.hid hb
  go_enter Try.func62, Try.ntmps62
  go_wp2
  go_loop [3, 5, 8] (fun m _ i => ∃ k : Nat, k ≤ xs.length ∧ i = .int .i64 k ∧ m = .int .i64 (xs.take k).sum) (fun _ _ i => xs.length - (intOf i).toNat)
  case atStart => exact ⟨0, Nat.zero_le _, rfl, rfl⟩
  case round =>
    obtain ⟨k, hk, rfl, rfl⟩ := hrel
    by_cases hlt : k < xs.length
    · obtain ⟨bl, off, rfl, hbl, hcell⟩ := h.at k hlt
      obtain ⟨s0, s1⟩ := sum_take_le xs hb.out k
      obtain ⟨x0, x1⟩ := hb.out xs[k] (List.getElem_mem hlt)
      have hF := Lib.hid (sum_take_succ xs k hlt)
      go_wp2
      go_round
      case rel => exact ⟨k + 1, by omega, by go_num, by rw [hF.out]⟩
      case measure => simp [intOf]; omega
    · obtain rfl : k = xs.length := by omega
      go_wp2
      go_ret
      exact ⟨by rw [← List.take_length (l := xs)]; simp, rfl⟩

end Go.Proofs.Ytjeaeninpmaoiaa
/- Lists of lists of integers in memory, and the contracts of the laws' helpers on them; conditions: none. -/
namespace Go.Proofs.Ytjeaeninpmaoiaa
open Go.RowKit

theorem info_row : (Try.prog.info? 26).map (fun i => (i.zero, i.size, i.bytes)) = some (some (.slice none 0 0), 1, 24) := by kernel_rfl

/-- the slice value v reads as lists of integers -/
def Rows2 (w : World) (v : Value) (xss : List (List Int)) : Prop :=
  ∃ vs : List Value, Sl w v vs ∧ vs.length = xss.length ∧ ∀ i (h : i < vs.length) (h' : i < xss.length), Ints w vs[i] xss[i]

theorem Rows2.out {w : World} {v : Value} {xss : List (List Int)} (h : Rows2 w v xss) : ∃ a cap, v = .slice a xss.length cap ∧ xss.length ≤ 9223372036854775807 := by
  obtain ⟨vs, ⟨a, cap, rfl, hl, -⟩, hn, -⟩ := h
  exact ⟨a, cap, by rw [hn], by omega⟩
theorem Rows2.at {w : World} {a : Option Addr} {n cap : Nat} {xss : List (List Int)} (h : Rows2 w (.slice a n cap) xss) (j : Nat) (hj : j < xss.length) :
    ∃ b off a' cap', a = some ⟨b, off, none⟩ ∧ b < w.heap.size ∧ w.cell? ⟨b, off + j, none⟩ = some (.slice a' xss[j].length cap') ∧ Ints w (.slice a' xss[j].length cap') xss[j] := by
  obtain ⟨vs, ⟨a2, cap2, e, hl, hc⟩, hn, hr⟩ := h
  simp only [Value.slice.injEq] at e
  obtain ⟨rfl, rfl, rfl⟩ := e
  have hj' : j < vs.length := by omega
  obtain ⟨b, off, rfl, hb, hcell⟩ := hc j vs[j] (List.getElem?_eq_getElem hj')
  have hi := hr j hj' hj
  obtain ⟨a', cap', e, -, -⟩ := hi.out
  rw [e] at hcell hi
  exact ⟨b, off, a', cap', rfl, hb, hcell, hi⟩
theorem Rows2.below {w w' : World} {v : Value} {xss : List (List Int)} (h : Rows2 w v xss) (hb : Below w.heap.size w w') : Rows2 w' v xss := by
  obtain ⟨vs, hs, hn, hr⟩ := h
  exact ⟨vs, hs.below hb, hn, fun i h1 h2 => (hr i h1 h2).below hb⟩

/-- blocks outside F are as they were -/
structure KeptOff (F : Nat → Prop) (w w' : World) : Prop where
  os : w'.os = w.os
  tape : w'.tape = w.tape
  output : w'.output = w.output
  size : w.heap.size ≤ w'.heap.size
  block : ∀ k, k < w.heap.size → ¬ F k → w'.heap[k]? = w.heap[k]?
theorem KeptOff.refl (F : Nat → Prop) (w : World) : KeptOff F w w := ⟨rfl, rfl, rfl, Nat.le_refl _, fun _ _ _ => rfl⟩
theorem KeptOff.trans {F : Nat → Prop} {a b c : World} (h : KeptOff F a b) (k : KeptOff F b c) : KeptOff F a c :=
  ⟨k.os.trans h.os, k.tape.trans h.tape, k.output.trans h.output, Nat.le_trans h.size k.size, fun i hi hf => (k.block i (Nat.lt_of_lt_of_le hi h.size) hf).trans (h.block i hi hf)⟩
theorem KeptOff.mono {F G : Nat → Prop} {w w' : World} (h : KeptOff F w w') (hFG : ∀ k, F k → G k) : KeptOff G w w' :=
  ⟨h.os, h.tape, h.output, h.size, fun k hk hg => h.block k hk fun hf => hg (hFG k hf)⟩
theorem KeptOff.below {F : Nat → Prop} {w w' : World} (h : KeptOff F w w') {B : Nat} (hB : ∀ k, F k → B ≤ k) (hw : B ≤ w.heap.size) : Below B w w' :=
  ⟨h.os, h.tape, h.output, h.size, fun k hk => h.block k (by omega) fun hf => by have := hB k hf; omega⟩
theorem keptOff_grown {F : Nat → Prop} {w w' : World} {v : Value} (h : w.grownBy w' v.ownBlock) (hF : ∀ g, v.ownBlock = some g → F g) : KeptOff F w w' :=
  ⟨h.os, h.tape, h.output, h.size, fun k hk hf => h.block k hk fun e => hf (hF k e.symm)⟩
theorem keptOff_set (w : World) (b j : Nat) (v : Value) : KeptOff (fun k => k = b) w (w.setCell ⟨b, j, none⟩ v) :=
  ⟨rfl, rfl, rfl, by simp, fun k _ hk => Below.heap_setCell w ⟨b, j, none⟩ v k hk⟩
theorem OwnS.off {w w' : World} {B : Nat} {E : TypeId} {v : Value} {us : List Value} {F : Nat → Prop} (h : OwnS w B E v us) (hk : KeptOff F w w') (hd : ∀ g, v.ownBlock = some g → ¬ F g) : OwnS w' B E v us :=
  h.kept fun g hg => hk.block g (h.lt g hg).2 (hd g hg)
theorem OwnI.off {w w' : World} {B : Nat} {v : Value} {xs : List Int} {F : Nat → Prop} (h : OwnI w B v xs) (hk : KeptOff F w w') (hd : ∀ g, v.ownBlock = some g → ¬ F g) : OwnI w' B v xs := OwnS.off h hk hd

/-- lists of lists in blocks of the call's own (all in F), no two rows in one block -/
def OwnR (w : World) (B : Nat) (F : Nat → Prop) (v : Value) (xss : List (List Int)) : Prop :=
  ∃ vs : List Value, OwnS w B 26 v vs ∧ vs.length = xss.length ∧ (∀ i (h : i < vs.length) (h' : i < xss.length), OwnI w B vs[i] xss[i]) ∧
    (∀ i j (_ : i < vs.length) (_ : j < vs.length), i ≠ j → ∀ g, vs[i].ownBlock = some g → vs[j].ownBlock ≠ some g) ∧
    (∀ g, v.ownBlock = some g → F g) ∧ (∀ i (_ : i < vs.length) g, vs[i].ownBlock = some g → F g)

theorem OwnR.rows {w : World} {B : Nat} {F : Nat → Prop} {v : Value} {xss : List (List Int)} (h : OwnR w B F v xss) : Rows2 w v xss := by
  obtain ⟨vs, hs, hn, hr, -⟩ := h
  exact ⟨vs, hs.sl, hn, fun i h1 h2 => (hr i h1 h2).ints⟩
theorem OwnR.mono {w : World} {B B' : Nat} {F G : Nat → Prop} {v : Value} {xss : List (List Int)} (h : OwnR w B F v xss) (hB : B' ≤ B) (hFG : ∀ k, F k → G k) : OwnR w B' G v xss := by
  obtain ⟨vs, hs, hn, hr, hd, hf, hg⟩ := h
  exact ⟨vs, hs.mono hB, hn, fun i h1 h2 => (hr i h1 h2).mono hB, hd, fun g e => hFG g (hf g e), fun i hi g e => hFG g (hg i hi g e)⟩
theorem OwnR.below {w w' : World} {B : Nat} {F : Nat → Prop} {v : Value} {xss : List (List Int)} (h : OwnR w B F v xss) (hb : Below w.heap.size w w') : OwnR w' B F v xss := by
  obtain ⟨vs, hs, hn, hr, hd⟩ := h
  exact ⟨vs, hs.below hb (Nat.le_refl _), hn, fun i h1 h2 => (hr i h1 h2).below hb, hd⟩
theorem OwnR.off {w w' : World} {B : Nat} {F G : Nat → Prop} {v : Value} {xss : List (List Int)} (h : OwnR w B F v xss) (hk : KeptOff G w w') (hd : ∀ g, F g → ¬ G g) : OwnR w' B F v xss := by
  obtain ⟨vs, hs, hn, hr, hdd, hf, hg⟩ := h
  exact ⟨vs, hs.off hk fun g e => hd g (hf g e), hn, fun i h1 h2 => (hr i h1 h2).off hk fun g e => hd g (hg i h1 g e), hdd, hf, hg⟩
theorem OwnR.le {w : World} {B : Nat} {F : Nat → Prop} {v : Value} {xss : List (List Int)} (h : OwnR w B F v xss) : xss.length ≤ 1099511627776 := by
  obtain ⟨vs, hs, hn, -⟩ := h
  have := hs.2
  omega
theorem OwnR.isIn {w : World} {B : Nat} {F : Nat → Prop} {v : Value} {xss : List (List Int)} (h : OwnR w B F v xss) : OwnR w B (fun k => B ≤ k ∧ k < w.heap.size) v xss := by
  obtain ⟨vs, hs, hn, hr, hd, -, -⟩ := h
  exact ⟨vs, hs, hn, hr, hd, hs.lt, fun i h1 g e => OwnS.lt (hr i h1 (by omega)) g e⟩

/-- the first k rows are laid -/
def PartR (w : World) (B : Nat) (v : Value) (n : Nat) (xss : List (List Int)) (k : Nat) : Prop :=
  ∃ vs : List Value, OwnS w B 26 v vs ∧ vs.length = n ∧ (∀ i (h : i < vs.length) (h' : i < xss.length), i < k → OwnI w B vs[i] xss[i]) ∧
    (∀ i j (_ : i < vs.length) (_ : j < vs.length), i < k → j < k → i ≠ j → ∀ g, vs[i].ownBlock = some g → vs[j].ownBlock ≠ some g)
theorem PartR.below {w w' : World} {B n k : Nat} {v : Value} {xss : List (List Int)} (h : PartR w B v n xss k) (hb : Below w.heap.size w w') : PartR w' B v n xss k := by
  obtain ⟨vs, hs, hn, hr, hd⟩ := h
  exact ⟨vs, hs.below hb (Nat.le_refl _), hn, fun i h1 h2 h3 => (hr i h1 h2 h3).below hb, hd⟩
theorem PartR.all {w : World} {B : Nat} {v : Value} {xss : List (List Int)} (h : PartR w B v xss.length xss xss.length) : OwnR w B (fun k => B ≤ k ∧ k < w.heap.size) v xss := by
  obtain ⟨vs, hs, hn, hr, hd⟩ := h
  exact ⟨vs, hs, hn, fun i h1 h2 => hr i h1 h2 h2, fun i j h1 h2 => hd i j h1 h2 (by omega) (by omega), hs.lt, fun i h1 g e => OwnS.lt (hr i h1 (by omega) (by omega)) g e⟩

theorem OwnS.set {w : World} {B g n cap : Nat} {E : TypeId} {us : List Value} (h : OwnS w B E (.slice (some ⟨g, 0, none⟩) n cap) us) (j : Nat) (u : Value) :
    OwnS (w.setCell ⟨g, j, none⟩ u) B E (.slice (some ⟨g, 0, none⟩) n cap) (us.set j u) ∧ w.grownBy (w.setCell ⟨g, j, none⟩ u) (some g) := by
  have hn : n = us.length := by
    rcases h.1.2 with ⟨hv, _⟩ | ⟨g, cap, cur, hv, _⟩
    · simp at hv
    · simp only [Value.slice.injEq] at hv; exact hv.2.1
  have h1 := h.1
  rw [hn] at h1 ⊢
  obtain ⟨h2, h3⟩ := h1.stored j u
  exact ⟨⟨by simpa using h2, by simpa using h.2⟩, h3⟩
theorem OwnS.cell {w : World} {B g n cap : Nat} {E : TypeId} {us : List Value} (h : OwnS w B E (.slice (some ⟨g, 0, none⟩) n cap) us) (j : Nat) (hj : j < us.length) : w.cell? ⟨g, j, none⟩ = some us[j] ∧ w.frozen? ⟨g, j, none⟩ = false := by
  have hn : n = us.length := by
    rcases h.1.2 with ⟨hv, _⟩ | ⟨g, cap, cur, hv, _⟩
    · simp at hv
    · simp only [Value.slice.injEq] at hv; exact hv.2.1
  have h1 := h.1
  rw [hn] at h1
  refine ⟨?_, h1.frozenAt j⟩
  rw [h1.cellAt j (by omega)]
  simp [List.getElem?_eq_getElem hj]

/-- the next row is stored -/
theorem PartR.store {w w1 : World} {B g n cap k : Nat} {xss : List (List Int)} {v' : Value} (h : PartR w B (.slice (some ⟨g, 0, none⟩) n cap) n xss k) (hk : k < n) (hk' : k < xss.length)
    (hb : Below w.heap.size w w1) (hv : OwnI w1 w.heap.size v' xss[k]) (hB : B ≤ w.heap.size) :
    (∃ u, w1.cell? ⟨g, k, none⟩ = some u) ∧ w1.frozen? ⟨g, k, none⟩ = false ∧ PartR (w1.setCell ⟨g, k, none⟩ v') B (.slice (some ⟨g, 0, none⟩) n cap) n xss (k + 1) := by
  obtain ⟨vs, hs, hn, hr, hd⟩ := h
  have hs1 := hs.below hb (Nat.le_refl _)
  obtain ⟨hc, hf⟩ := hs1.cell k (by omega)
  obtain ⟨hs2, hg2⟩ := hs1.set k v'
  have keep : ∀ {u : Value} {xs : List Int} {C : Nat}, OwnI w1 C u xs → OwnI (w1.setCell ⟨g, k, none⟩ v') C u xs := fun {u xs C} ho =>
    ho.grown hg2 fun q e e' => by
      obtain rfl := Option.some.inj e'
      exact OwnS.apart ho hs1 (by decide) e rfl
  refine ⟨⟨_, hc⟩, hf, vs.set k v', hs2, by simpa using hn, fun i h1 h2 h3 => ?_, fun i j h1 h2 h3 h4 hne q e => ?_⟩
  · simp only [List.length_set] at h1
    rw [List.getElem_set]
    split
    · next e => subst e; exact keep (hv.mono hB)
    · next e => exact keep ((hr i h1 h2 (by omega)).below hb)
  · simp only [List.length_set] at h1 h2
    rw [List.getElem_set] at e ⊢
    split at e
    · next e1 =>
      rw [if_neg (by omega)]
      intro e2
      have a1 := OwnS.lt hv q e
      have a2 := OwnS.lt (hr j h2 (by omega) (by omega)) q e2
      omega
    · next e1 =>
      split
      · next e2 =>
        intro e3
        have a1 := OwnS.lt hv q e3
        have a2 := OwnS.lt (hr i h1 (by omega) (by omega)) q e
        omega
      · next e2 => exact hd i j h1 h2 (by omega) (by omega) hne q e

/-- make([][]int, n) -/
theorem wp_make_row {ops : Array Oper} {rest : List Oper} {o : Oper} {a : Act} {Q : Exit → Act → World → Prop} (w : World) (hgd : o.guard = none) (l c : Operand)
    (ho : o.op = .makeSlice 32 l c) (n : Nat) (hl : a.eval l = .int .i64 (n : Int)) (hc : a.eval c = .int .i64 (n : Int)) (hn : n ≤ 1099511627776) (xss : List (List Int))
    (h : ∀ w', PartR w' w.heap.size (.slice (some ⟨w.heap.size, 0, none⟩) n n) n xss 0 → Below w.heap.size w w' → w.heap.size < w'.heap.size → wpList Try.prog ops Q rest (a.put o.dst (.slice (some ⟨w.heap.size, 0, none⟩) n n)) w') :
    wpList Try.prog ops Q (o :: rest) a w := by
  obtain ⟨i0, hi, hz0, hz1, hz2⟩ := info_parts info_row
  refine wpList_make_full w hgd l c 32 ho w.heap.size 26 i0 (.slice none 0 0) 1 Try.underlying32 hi hz0 hz1 .i64 .i64 _ _ n hl hc rfl rfl (by rw [hz2]; omega) (by unfold maxLen; omega) (Nat.le_refl _) fun w' hown hg => ?_
  refine h w' ⟨List.replicate n (.slice none 0 0), ⟨?_, by simpa using hn⟩, by simp, fun i _ _ h3 => by omega, fun i j _ _ h3 => by omega⟩ ((Below.refl _ _).grown hg (Nat.le_refl _) (fun k e => by cases e)) (hown.lt _ rfl).2
  rw [show (madeCells (Value.slice none 0 0).cells (n * 1)).toList = List.replicate n (Value.slice none 0 0) by simp [Value.cells, toList_madeCells_one]] at hown
  simpa using hown

theorem OwnR.outer {w : World} {B : Nat} {F : Nat → Prop} {v : Value} {xss : List (List Int)} (h : OwnR w B F v xss) : ∃ vs, OwnS w B 26 v vs ∧ vs.length = xss.length := by
  obtain ⟨vs, hs, hn, -⟩ := h
  exact ⟨vs, hs, hn⟩

/-- out = append(out, row): the world in which the one new cell has been laid -/
theorem wp_append_row {ops : Array Oper} {rest : List Oper} {o : Oper} {a : Act} {Q : Exit → Act → World → Prop} (w : World) (r : Value) (hgd : o.guard = none) (s x : Operand)
    (ho : o.op = .call { callee := .builtin .append, args := #[s, x], argTypes := #[32, 32] }) (B : Nat) (F : Nat → Prop) (v : Value) (xss : List (List Int)) (hs : a.eval s = v) (hown : OwnR w B F v xss)
    (ys : List Int) (hr : OwnI w B r ys) (hd : ∀ g, r.ownBlock = some g → ¬ F g)
    {g : Nat} (hx : a.eval x = .slice (some ⟨g, 0, none⟩) 1 1) (hg : g = w.heap.size) (hlen : xss.length < 1099511627776) (hB : B ≤ w.heap.size)
    (h : ∀ v' w', OwnR w' B (fun k => B ≤ k ∧ k < w'.heap.size) v' (xss ++ [ys]) → w.grownBy w' v.ownBlock → Below B w w' → v' ≠ .slice none 0 0 → wpList Try.prog ops Q rest (a.put o.dst v') w') :
    wpList Try.prog ops Q (o :: rest) a (w.alloc (.cells #[r] 26)) := by
  subst hg
  obtain ⟨vs, hvs, hn, hrs, hdd, hf, hfs⟩ := hown
  obtain ⟨i0, hi, hz0, hz1, hz2⟩ := info_parts info_row
  have hal := World.grownBy_alloc w (.cells #[r] 26) none
  have hone : r.oneCell' = true := by
    obtain ⟨a', c', e, -, -⟩ := hr.ints.out
    rw [e]; rfl
  refine wpList_append_own _ hgd s x 32 ho B 26 i0 (.slice none 0 0) 1 24 Try.underlying32 hi hz0 hz1 hz2 rfl (by decide) v vs.length vs hs (hvs.1.alloc _) ⟨w.heap.size, 0, none⟩ 1 1 [r] hx rfl ?_ ?_
    (by unfold maxLen; omega) (by omega) (by simp; omega) fun v' w' h1 h2 h3 => ?_
  · intro j u hu
    rw [Addr.add_lit, World.cell?_alloc_at _ _ _ _ rfl]
    cases j with
    | zero => simpa using hu
    | succ j => simp at hu
  · intro u hu; simp at hu; subst hu; exact hone
  · have hgr := grown_trans hal h2
    have kr : OwnI w' B r ys := hr.grown hgr fun g e e' => OwnS.apart hr hvs (by decide) e e'
    have krs : ∀ i (h1 : i < vs.length) (h2 : i < xss.length), OwnI w' B vs[i] xss[i] := fun i h1 h2 => (hrs i h1 h2).grown hgr fun g e e' => OwnS.apart (hrs i h1 h2) hvs (by decide) e e'
    have hown2 : OwnS w' B 26 v' (vs ++ [r]) := ⟨by simpa using h1, by simp; omega⟩
    refine h v' w' (OwnR.isIn ⟨vs ++ [r], hown2, by simp [hn], fun i h1 h2 => ?_, fun i j h1 h2 hne q e => ?_, hown2.lt, fun i h1 q e => ?_⟩ (F := fun k => B ≤ k ∧ k < w'.heap.size)) hgr ((Below.refl _ _).grown hgr hB fun k hk => (hvs.lt k hk).1) fun e => ?_
    · simp only [List.length_append, List.length_singleton] at h1 h2
      by_cases hi : i < vs.length
      · rw [List.getElem_append_left hi, List.getElem_append_left (by omega)]; exact krs i hi (by omega)
      · obtain rfl : i = vs.length := by omega
        simp [hn, kr]
    · simp only [List.length_append, List.length_singleton] at h1 h2
      by_cases hi : i < vs.length <;> by_cases hj : j < vs.length
      · rw [List.getElem_append_left hi] at e
        rw [List.getElem_append_left hj]
        exact hdd i j hi hj hne q e
      · obtain rfl : j = vs.length := by omega
        rw [List.getElem_append_left hi] at e
        simp only [Nat.le_refl, List.getElem_append_right, Nat.sub_self, List.getElem_singleton]
        intro e2
        exact hd q e2 (hfs i hi q e)
      · obtain rfl : i = vs.length := by omega
        simp only [Nat.le_refl, List.getElem_append_right, Nat.sub_self, List.getElem_singleton] at e
        rw [List.getElem_append_left hj]
        intro e2
        exact hd q e (hfs j hj q e2)
      · omega
    · simp only [List.length_append, List.length_singleton] at h1
      by_cases hi : i < vs.length
      · rw [List.getElem_append_left hi] at e; exact OwnS.lt (krs i hi (by omega)) q e
      · obtain rfl : i = vs.length := by omega
        simp only [Nat.le_refl, List.getElem_append_right, Nat.sub_self, List.getElem_singleton] at e
        exact OwnS.lt kr q e
    · have := (h3.1 e).2
      simp at this
theorem ownR_empty (w : World) (B : Nat) (hB : B ≤ w.heap.size) : OwnR (w.alloc (.cells #[] 26)) B (fun k => B ≤ k ∧ k < (w.alloc (.cells #[] 26)).heap.size) (.slice (some ⟨w.heap.size, 0, none⟩) 0 0) [] := by
  have ho : OwnS (w.alloc (.cells #[] 26)) B 26 (.slice (some ⟨w.heap.size, 0, none⟩) 0 0) [] := ⟨by simpa using World.ownsRow_made w #[] 0 hB (Nat.zero_le _) (by simp), by simp⟩
  exact ⟨[], ho, rfl, fun i h => by simp at h, fun i j h => by simp at h, ho.lt, fun i h => by simp at h⟩
theorem ownR_nil (w : World) (B : Nat) (F : Nat → Prop) : OwnR w B F (.slice none 0 0) [] :=
  ⟨[], ⟨by simpa using World.ownsRow_nil w B 26 1, by simp⟩, rfl, fun i h => by simp at h, fun i j h => by simp at h, fun g h => by simp [Value.ownBlock] at h, fun i h => by simp at h⟩

/-- a list of lists in which every list is short -/
def Small2 (xss : List (List Int)) : Prop := xss.length ≤ 1048576 ∧ (∀ r ∈ xss, r.length ≤ 1048576) ∧ xss.length + (xss.map List.length).sum ≤ 1099511627776

/-! ### marks on lists of lists -/
def totR (xss : List (List Int)) : Nat := (xss.map List.length).sum
def marksR (k : Int) : List (List Int) → List (List Int)
  | [] => []
  | r :: rs => marks k r.length :: marksR (k + (r.length : Int)) rs
theorem totR_append (a b : List (List Int)) : totR (a ++ b) = totR a + totR b := by simp [totR]
theorem marksR_len (k : Int) (xss : List (List Int)) : (marksR k xss).length = xss.length := by
  induction xss generalizing k with
  | nil => rfl
  | cons r rs ih => simp [marksR, ih]
theorem marksR_snoc (k : Int) (xss : List (List Int)) (r : List Int) : marksR k (xss ++ [r]) = marksR k xss ++ [marks (k + (totR xss : Int)) r.length] := by
  induction xss generalizing k with
  | nil => simp [marksR, totR]
  | cons x rs ih =>
    simp only [List.cons_append, marksR, ih]
    congr 2
    simp [totR]
    congr 1
    omega
theorem marksR_app (k : Int) (xss yss : List (List Int)) : marksR k (xss ++ yss) = marksR k xss ++ marksR (k + (totR xss : Int)) yss := by
  induction xss generalizing k with
  | nil => simp [marksR, totR]
  | cons x rs ih =>
    simp only [List.cons_append, marksR, ih]
    congr 3
    simp [totR]
    omega
theorem marksR_tot (k : Int) (xss : List (List Int)) : totR (marksR k xss) = totR xss := by
  induction xss generalizing k with
  | nil => rfl
  | cons r rs ih =>
    have := ih (k + (r.length : Int))
    simp only [totR, marksR, List.map_cons, List.sum_cons, marks_len] at this ⊢
    omega
theorem totR_take_succ (xss : List (List Int)) (j : Nat) (h : j < xss.length) : totR (xss.take (j + 1)) = totR (xss.take j) + xss[j].length := by
  rw [List.take_succ_eq_append_getElem h, totR_append]; simp [totR]
theorem totR_take_le (xss : List (List Int)) (j : Nat) : totR (xss.take j) ≤ totR xss := by
  have := totR_append (xss.take j) (xss.drop j)
  rw [List.take_append_drop] at this
  omega
def markedR (k : Int) (xss : List (List Int)) (j : Nat) : List (List Int) := marksR k (xss.take j) ++ xss.drop j
theorem markedR_len (k : Int) (xss : List (List Int)) (j : Nat) (h : j ≤ xss.length) : (markedR k xss j).length = xss.length := by
  simp only [markedR, List.length_append, marksR_len, List.length_take, List.length_drop]; omega
theorem markedR_get (k : Int) (xss : List (List Int)) (j : Nat) (h : j < xss.length) (h' : j < (markedR k xss j).length) : (markedR k xss j)[j] = xss[j] := by
  have e : (marksR k (xss.take j)).length = j := by rw [marksR_len]; simp; omega
  have : (markedR k xss j)[j]? = some xss[j] := by
    unfold markedR
    rw [List.getElem?_append_right (by omega), e]
    simp [h]
  exact (List.getElem?_eq_some_iff.1 this).2
theorem marksR_get (k : Int) (xss : List (List Int)) (j : Nat) (h : j < xss.length) (h' : j < (marksR k xss).length) : (marksR k xss)[j] = marks (k + (totR (xss.take j) : Int)) xss[j].length := by
  have e : (marksR k (xss.take j)).length = j := by rw [marksR_len]; simp; omega
  have s : marksR k (xss.take (j + 1) ++ xss.drop (j + 1)) = marksR k (xss.take (j + 1)) ++ marksR (k + (totR (xss.take (j + 1)) : Int)) (xss.drop (j + 1)) := marksR_app _ _ _
  have : (marksR k xss)[j]? = some (marks (k + (totR (xss.take j) : Int)) xss[j].length) := by
    rw [List.take_append_drop] at s
    rw [s, List.take_succ_eq_append_getElem h, marksR_snoc, List.append_assoc, List.getElem?_append_right (by omega), e]
    simp
  exact (List.getElem?_eq_some_iff.1 this).2
theorem markedR_set (k : Int) (xss : List (List Int)) (j : Nat) (h : j < xss.length) : (markedR k xss j).set j (marks (k + (totR (xss.take j) : Int)) xss[j].length) = markedR k xss (j + 1) := by
  unfold markedR
  have e : (marksR k (xss.take j)).length = j := by rw [marksR_len]; simp; omega
  rw [List.set_append_right _ _ (by omega), e, Nat.sub_self, List.drop_eq_getElem_cons h, List.set_cons_zero, List.take_succ_eq_append_getElem h, marksR_snoc, List.append_assoc]
  rfl

/-- one row is written in place -/
theorem OwnR.row {w : World} {B : Nat} {F : Nat → Prop} {a : Option Addr} {n cap : Nat} {xss : List (List Int)} (h : OwnR w B F (.slice a n cap) xss) (j : Nat) (hj : j < xss.length) :
    ∃ b off a' cap', a = some ⟨b, off, none⟩ ∧ b < w.heap.size ∧ w.cell? ⟨b, off + j, none⟩ = some (.slice a' xss[j].length cap') ∧ OwnI w B (.slice a' xss[j].length cap') xss[j] ∧
      ∀ w1 ys, w.grownBy w1 (Value.slice a' xss[j].length cap').ownBlock → OwnI w1 B (.slice a' xss[j].length cap') ys → OwnR w1 B F (.slice a n cap) (xss.set j ys) ∧ KeptOff F w w1 := by
  obtain ⟨vs, hs, hn, hr, hd, hf, hg⟩ := h
  have hj' : j < vs.length := by omega
  obtain ⟨a2, cap2, e, hl, hc⟩ := hs.sl
  simp only [Value.slice.injEq] at e
  obtain ⟨rfl, rfl, rfl⟩ := e
  obtain ⟨b, off, rfl, hb, hcell⟩ := hc j vs[j] (List.getElem?_eq_getElem hj')
  have hi := hr j hj' hj
  obtain ⟨a', cap', e, -, -⟩ := hi.ints.out
  refine ⟨b, off, a', cap', rfl, hb, by rw [hcell, e], by rw [← e]; exact hi, fun w1 ys hgr hy => ?_⟩
  rw [← e] at hgr hy
  have hk : KeptOff F w w1 := keptOff_grown hgr (hg j hj')
  refine ⟨⟨vs, hs.kept fun g eg => hgr.block g (hs.lt g eg).2 fun e2 => OwnS.apart hi hs (by decide) e2.symm eg, by simpa using hn, fun i h1 h2 => ?_, hd, hf, hg⟩, hk⟩
  rw [List.getElem_set]
  split
  · next e3 => subst e3; exact hy
  · next e3 =>
    simp only [List.length_set] at h2
    exact (hr i h1 h2).grown hgr fun g eg e4 => hd j i hj' h1 e3 g e4 eg



/-! ### the two kinds of the laws' walks: F, a list; R, a list of lists -/
/-- a list in blocks of the call's own, all in F -/
def OwnF (w : World) (B : Nat) (F : Nat → Prop) (v : Value) (xs : List Int) : Prop := OwnI w B v xs ∧ xs.length ≤ 1099511627776 ∧ ∀ g, v.ownBlock = some g → F g
theorem OwnF.rd {w : World} {B : Nat} {F : Nat → Prop} {v : Value} {xs : List Int} (h : OwnF w B F v xs) : Ints w v xs := h.1.ints
theorem OwnF.tot {w : World} {B : Nat} {F : Nat → Prop} {v : Value} {xs : List Int} (h : OwnF w B F v xs) : xs.length ≤ 1099511627776 := h.2.1
theorem OwnF.below {w w' : World} {B : Nat} {F : Nat → Prop} {v : Value} {xs : List Int} (h : OwnF w B F v xs) (hb : Below w.heap.size w w') : OwnF w' B F v xs := ⟨h.1.below hb, h.2⟩
theorem OwnF.off {w w' : World} {B : Nat} {F G : Nat → Prop} {v : Value} {xs : List Int} (h : OwnF w B F v xs) (hk : KeptOff G w w') (hd : ∀ g, F g → ¬ G g) : OwnF w' B F v xs := ⟨h.1.off hk fun g e => hd g (h.2.2 g e), h.2⟩
theorem OwnF.mono {w : World} {B B' : Nat} {F : Nat → Prop} {v : Value} {xs : List Int} (h : OwnF w B F v xs) (hB : B' ≤ B) : OwnF w B' F v xs := ⟨h.1.mono hB, h.2⟩
theorem OwnI.toF {w : World} {B : Nat} {v : Value} {xs : List Int} (h : OwnI w B v xs) : OwnF w B (fun k => B ≤ k ∧ k < w.heap.size) v xs := ⟨h, h.le, OwnS.lt h⟩

/-- lists of lists in blocks of the call's own, all in F, not too many numbers -/
def OwnQ (w : World) (B : Nat) (F : Nat → Prop) (v : Value) (xss : List (List Int)) : Prop := OwnR w B F v xss ∧ xss.length + totR xss ≤ 1099511627776
theorem OwnQ.rd {w : World} {B : Nat} {F : Nat → Prop} {v : Value} {xss : List (List Int)} (h : OwnQ w B F v xss) : Rows2 w v xss := h.1.rows
theorem OwnQ.tot {w : World} {B : Nat} {F : Nat → Prop} {v : Value} {xss : List (List Int)} (h : OwnQ w B F v xss) : xss.length + totR xss ≤ 1099511627776 := h.2
theorem OwnQ.below {w w' : World} {B : Nat} {F : Nat → Prop} {v : Value} {xss : List (List Int)} (h : OwnQ w B F v xss) (hb : Below w.heap.size w w') : OwnQ w' B F v xss := ⟨h.1.below hb, h.2⟩
theorem OwnQ.off {w w' : World} {B : Nat} {F G : Nat → Prop} {v : Value} {xss : List (List Int)} (h : OwnQ w B F v xss) (hk : KeptOff G w w') (hd : ∀ g, F g → ¬ G g) : OwnQ w' B F v xss := ⟨h.1.off hk hd, h.2⟩
theorem OwnQ.mono {w : World} {B B' : Nat} {F : Nat → Prop} {v : Value} {xss : List (List Int)} (h : OwnQ w B F v xss) (hB : B' ≤ B) : OwnQ w B' F v xss := ⟨h.1.mono hB fun _ h => h, h.2⟩
theorem totR_small' (xss : List (List Int)) (h : xss.length ≤ 1048576) (h2 : ∀ r ∈ xss, r.length ≤ 524288) : xss.length + totR xss ≤ 1099511627776 := by
  have : ∀ l : List (List Int), (∀ r ∈ l, r.length ≤ 524288) → totR l ≤ l.length * 524288 := by
    intro l hl
    induction l with
    | nil => simp [totR]
    | cons r rs ih =>
      have a := hl r (by simp)
      have b := ih fun x hx => hl x (by simp [hx])
      simp only [totR, List.map_cons, List.sum_cons, List.length_cons] at b ⊢
      omega
  have := this xss h2
  omega

end Go.Proofs.Ytjeaeninpmaoiaa
/- Boxes in memory, and the contracts of the laws' helpers on them; conditions: none. -/
namespace Go.Proofs.Ytjeaeninpmaoiaa
open Go.RowKit

/-- a block of four cells -/
theorem blk4 {w : World} {b : Nat} {v1 v2 v3 v4 : Value} {t : TypeId} (h : w.heap[b]? = some (.cells #[v1, v2, v3, v4] t (0, 0))) :
    (w.cell? ⟨b, 0, none⟩ = some v1 ∧ w.cell? ⟨b, 1, none⟩ = some v2 ∧ w.cell? ⟨b, 2, none⟩ = some v3 ∧ w.cell? ⟨b, 3, none⟩ = some v4) ∧ (w.frozen? ⟨b, 0, none⟩ = false ∧ w.frozen? ⟨b, 1, none⟩ = false ∧ w.frozen? ⟨b, 2, none⟩ = false ∧ w.frozen? ⟨b, 3, none⟩ = false) := by
  refine ⟨⟨?_, ?_, ?_, ?_⟩, ?_, ?_, ?_, ?_⟩ <;> simp [World.cell?, World.frozen?, h]

structure BoxD where
  x : Int
  y : Int
  w : Int
  r : List (List Int)

/-- the value reads as that -/
def BoxR (w : World) (v : Value) (r : BoxD) : Prop := ∃ v3, v = .agg #[.int .i64 r.x, .int .i64 r.y, .int .i64 r.w, v3] ∧ Rows2 w v3 r.r
theorem BoxR.below {w w' : World} {v : Value} {r : BoxD} (h : BoxR w v r) (hb : Below w.heap.size w w') : BoxR w' v r := by
  obtain ⟨v3, e, h3⟩ := h
  exact ⟨v3, e, h3.below hb⟩
theorem BoxR.form {w : World} {v : Value} {r : BoxD} (h : BoxR w v r) : ∃ a3 k3, v = .agg #[.int .i64 r.x, .int .i64 r.y, .int .i64 r.w, .slice a3 r.r.length k3] := by
  obtain ⟨v3, rfl, h3⟩ := h
  obtain ⟨a3, k3, rfl, -⟩ := h3.out
  exact ⟨_, _, rfl⟩
/-- .. in blocks of the call's own, no two parts in one block -/
def OwnB (w : World) (B : Nat) (F : Nat → Prop) (v : Value) (r : BoxD) : Prop :=
  ∃ v3, v = .agg #[.int .i64 r.x, .int .i64 r.y, .int .i64 r.w, v3] ∧ ∃ F3 : Nat → Prop, OwnQ w B F3 v3 r.r ∧ (∀ k, F3 k → F k)
theorem OwnB.rd {w : World} {B : Nat} {F : Nat → Prop} {v : Value} {r : BoxD} (h : OwnB w B F v r) : BoxR w v r := by
  obtain ⟨v3, e, F3, h3, -⟩ := h
  exact ⟨v3, e, h3.rd⟩
theorem OwnB.below {w' : World} {w : World} {B : Nat} {F : Nat → Prop} {v : Value} {r : BoxD} (h : OwnB w B F v r) (hb : Below w.heap.size w w') : OwnB w' B F v r := by
  obtain ⟨v3, e, F3, h3, hh⟩ := h
  exact ⟨v3, e, F3, h3.below hb, hh⟩
theorem OwnB.mono {B' : Nat} {w : World} {B : Nat} {F : Nat → Prop} {v : Value} {r : BoxD} (h : OwnB w B F v r) (hB : B' ≤ B) {G : Nat → Prop} (hG : ∀ k, F k → G k) : OwnB w B' G v r := by
  obtain ⟨v3, e, F3, h3, i3⟩ := h
  exact ⟨v3, e, F3, h3.mono hB, fun k hk => hG k (i3 k hk)⟩
theorem OwnB.off {w' : World} {G : Nat → Prop} {w : World} {B : Nat} {F : Nat → Prop} {v : Value} {r : BoxD} (h : OwnB w B F v r) (hk : KeptOff G w w') (hd : ∀ k, F k → ¬ G k) : OwnB w' B F v r := by
  obtain ⟨v3, e, F3, h3, i3⟩ := h
  exact ⟨v3, e, F3, h3.off hk fun k hk => hd k (i3 k hk), i3⟩
def totB (r : BoxD) : Nat := totR r.r
theorem OwnB.tot {w : World} {B : Nat} {F : Nat → Prop} {v : Value} {r : BoxD} (h : OwnB w B F v r) : r.r.length + totR r.r ≤ 1099511627776 := by
  obtain ⟨v3, e, F3, h3, -⟩ := h
  exact h3.tot
theorem totB_le {r : BoxD} (h : r.r.length + totR r.r ≤ 1099511627776) : totB r ≤ 4398046511104 := by unfold totB; omega

def marksB (k : Int) (r : BoxD) : BoxD := ⟨r.x, r.y, r.w, marksR (k) r.r⟩

end Go.Proofs.Ytjeaeninpmaoiaa
