/- What a slice reads as in memory, whoever made it, and what a call of the program makes; conditions: none. -/
import Derived.Test.YtmdpblckjeochaaRows
import Derived.WalkKit
import Derived.Lib.Hide
import Derived.Deep.QuietTactic
import Derived.BigQuiet
import Derived.Deep.LoopGhost
import Derived.Deep.OwnRows
namespace Go.Proofs.Ytmdpblckjeochaa
open Go.RowKit

theorem info_int : (Try.prog.info? 3).map (fun i => (i.zero, i.size, i.bytes)) = some (some (.int .i64 0), 1, 8) := by kernel_rfl

/-- the slice value v reads, in w, as the one-cell values us -/
def Sl (w : World) (v : Value) (us : List Value) : Prop :=
  ∃ a cap, v = .slice a us.length cap ∧ (us.length ≤ cap ∧ cap ≤ 9223372036854775807) ∧
    ∀ j u, us[j]? = some u → ∃ b off, a = some ⟨b, off, none⟩ ∧ b < w.heap.size ∧ w.cell? ⟨b, off + j, none⟩ = some u

/-- .. as integers -/
def Ints (w : World) (v : Value) (xs : List Int) : Prop := Sl w v (xs.map (Value.int .i64))

theorem Ints.out {w : World} {v : Value} {xs : List Int} (h : Ints w v xs) : ∃ a cap, v = .slice a xs.length cap ∧ xs.length ≤ 9223372036854775807 ∧
    ∀ j (hj : j < xs.length), ∃ b off, a = some ⟨b, off, none⟩ ∧ b < w.heap.size ∧ w.cell? ⟨b, off + j, none⟩ = some (.int .i64 xs[j]) := by
  obtain ⟨a, cap, rfl, hl, hc⟩ := h
  refine ⟨a, cap, by simp, by have := hl.1; have := hl.2; simp only [List.length_map] at *; omega, fun j hj => hc j _ ?_⟩
  simp [List.getElem?_eq_getElem hj]

theorem Sl.below {w w' : World} {v : Value} {us : List Value} (h : Sl w v us) (hb : Below w.heap.size w w') : Sl w' v us := by
  obtain ⟨a, cap, rfl, hl, hc⟩ := h
  refine ⟨a, cap, rfl, hl, fun j u hu => ?_⟩
  obtain ⟨b, off, e, hlt, hcell⟩ := hc j u hu
  exact ⟨b, off, e, Nat.lt_of_lt_of_le hlt hb.size, (hb.cell (p := ⟨b, off + j, none⟩) hlt).trans hcell⟩
theorem Ints.below {w w' : World} {v : Value} {xs : List Int} (h : Ints w v xs) (hb : Below w.heap.size w w') : Ints w' v xs := Sl.below h hb

/-- .. and its capacity -/
theorem Ints.cap {w : World} {a : Option Addr} {n cap : Nat} {xs : List Int} (h : Ints w (.slice a n cap) xs) : n = xs.length ∧ n ≤ cap ∧ cap ≤ 9223372036854775807 := by
  obtain ⟨a', cap', e, hl, -⟩ := h
  simp only [Value.slice.injEq, List.length_map] at e hl
  obtain ⟨rfl, rfl, rfl⟩ := e
  exact ⟨rfl, hl⟩

/-- v is a slice at the head of a block from B on, of elements of type E, one cell each, nothing frozen -/
def OwnS (w : World) (B : Nat) (E : TypeId) (v : Value) (us : List Value) : Prop := w.ownsRow B E 1 v us.length us ∧ us.length ≤ 1099511627776
def OwnI (w : World) (B : Nat) (v : Value) (xs : List Int) : Prop := OwnS w B 3 v (xs.map (Value.int .i64))

theorem OwnS.sl {w : World} {B : Nat} {E : TypeId} {v : Value} {us : List Value} (h : OwnS w B E v us) : Sl w v us := by
  obtain ⟨h, hl⟩ := h
  rcases h.2 with ⟨hv, h0⟩ | ⟨g, cap, cur, hv, hg, hh, hn, hc, hs, ht⟩
  · have : us = [] := List.length_eq_zero_iff.1 h0
    subst this; subst hv
    exact ⟨none, 0, rfl, ⟨Nat.zero_le _, by omega⟩, fun j u hu => by simp at hu⟩
  · subst hv
    refine ⟨_, cap, rfl, ⟨hn, by unfold maxLen at hc; omega⟩, fun j u hu => ⟨g, 0, rfl, (Array.getElem?_eq_some_iff.1 hh).1, ?_⟩⟩
    have := h.cells (g := g) rfl j u hu
    rw [Addr.add_lit] at this
    exact this
theorem OwnI.ints {w : World} {B : Nat} {v : Value} {xs : List Int} (h : OwnI w B v xs) : Ints w v xs := OwnS.sl h
theorem OwnI.le {w : World} {B : Nat} {v : Value} {xs : List Int} (h : OwnI w B v xs) : xs.length ≤ 1099511627776 := by simpa using h.2

theorem OwnS.mono {w : World} {B B' : Nat} {E : TypeId} {v : Value} {us : List Value} (h : OwnS w B E v us) (hB : B' ≤ B) : OwnS w B' E v us := by
  refine ⟨⟨h.1.1, ?_⟩, h.2⟩
  rcases h.1.2 with h' | ⟨g, cap, cur, e, hg, r⟩
  · exact .inl h'
  · exact .inr ⟨g, cap, cur, e, by omega, r⟩
theorem OwnI.mono {w : World} {B B' : Nat} {v : Value} {xs : List Int} (h : OwnI w B v xs) (hB : B' ≤ B) : OwnI w B' v xs := OwnS.mono h hB

/-- whatever leaves v's own block as it is -/
theorem OwnS.kept {w w' : World} {B : Nat} {E : TypeId} {v : Value} {us : List Value} (h : OwnS w B E v us) (hk : ∀ g, v.ownBlock = some g → w'.heap[g]? = w.heap[g]?) : OwnS w' B E v us := by
  refine ⟨⟨h.1.1, ?_⟩, h.2⟩
  rcases h.1.2 with h' | ⟨g, cap, cur, rfl, hg, hh, r⟩
  · exact .inl h'
  · exact .inr ⟨g, cap, cur, rfl, hg, (hk g rfl).trans hh, r⟩
theorem OwnS.lt {w : World} {B : Nat} {E : TypeId} {v : Value} {us : List Value} (h : OwnS w B E v us) : ∀ g, v.ownBlock = some g → B ≤ g ∧ g < w.heap.size := h.1.lt
theorem OwnS.below {w w' : World} {B C : Nat} {E : TypeId} {v : Value} {us : List Value} (h : OwnS w B E v us) (hb : Below C w w') (hC : w.heap.size ≤ C) : OwnS w' B E v us :=
  h.kept fun g hg => hb.block g (by have := h.lt g hg; omega)
theorem OwnI.below {w w' : World} {B : Nat} {v : Value} {xs : List Int} (h : OwnI w B v xs) (hb : Below w.heap.size w w') : OwnI w' B v xs := OwnS.below h hb (Nat.le_refl _)

theorem OwnI.grown {w w' : World} {B : Nat} {v : Value} {xs : List Int} {row : Option Nat} (h : OwnI w B v xs) (hg : w.grownBy w' row) (hne : ∀ g, v.ownBlock = some g → row ≠ some g) : OwnI w' B v xs :=
  OwnS.kept h fun g e => hg.block g (OwnS.lt h g e).2 fun e' => hne g e e'.symm
/-- where v's block lies: between two numbers -/
def In (v : Value) (a b : Nat) : Prop := ∀ g, v.ownBlock = some g → a ≤ g ∧ g < b
theorem OwnI.isIn {w : World} {B : Nat} {v : Value} {xs : List Int} (h : OwnI w B v xs) : In v B w.heap.size := OwnS.lt h
theorem OwnI.grownIn {w w' : World} {B a b a' b' : Nat} {v u : Value} {xs : List Int} (h : OwnI w B v xs) (hg : w.grownBy w' u.ownBlock) (hv : In v a b) (hu : In u a' b') (hd : b ≤ a' ∨ b' ≤ a) : OwnI w' B v xs :=
  h.grown hg fun g e e' => by have := hv g e; have := hu g e'; omega

/-- the block of an owned slice holds elements of that type: two slices of two types do not share it -/
theorem OwnS.block {w : World} {B : Nat} {E : TypeId} {v : Value} {us : List Value} (h : OwnS w B E v us) {g : Nat} (hg : v.ownBlock = some g) : ∃ cur, w.heap[g]? = some (.cells cur E (0, 0)) := by
  rcases h.1.2 with ⟨rfl, _⟩ | ⟨g', cap, cur, rfl, _, hh, _⟩
  · simp [Value.ownBlock] at hg
  · simp only [Value.ownBlock, Option.some.injEq] at hg
    subst hg
    exact ⟨cur, hh⟩
theorem OwnS.apart {w : World} {B B' : Nat} {E E' : TypeId} {v v' : Value} {us us' : List Value} (h : OwnS w B E v us) (h' : OwnS w B' E' v' us') (hE : E ≠ E') {g : Nat} (hg : v.ownBlock = some g) : v'.ownBlock ≠ some g := by
  intro hg'
  obtain ⟨c, hc⟩ := h.block hg
  obtain ⟨c', hc'⟩ := h'.block hg'
  rw [hc] at hc'
  injection hc' with e
  injection e with _ e2
  exact hE e2

theorem OwnI.shape {w : World} {B : Nat} {v : Value} {xs : List Int} (h : OwnI w B v xs) : (v = .slice none 0 0 ∧ xs = []) ∨ ∃ g cap, v = .slice (some ⟨g, 0, none⟩) xs.length cap ∧ B ≤ g ∧ g < w.heap.size := by
  rcases h.1.2 with ⟨hv, h0⟩ | ⟨g, cap, cur, hv, hg, hh, hn, hc, hs, ht⟩
  · exact .inl ⟨hv, by simpa using h0⟩
  · exact .inr ⟨g, cap, by simpa using hv, hg, (Array.getElem?_eq_some_iff.1 hh).1⟩

/-- cells of an owned slice at its literal place -/
theorem OwnI.cell {w : World} {B g n cap : Nat} {xs : List Int} (h : OwnI w B (.slice (some ⟨g, 0, none⟩) n cap) xs) (j : Nat) (hj : j < xs.length) : w.cell? ⟨g, j, none⟩ = some (.int .i64 xs[j]) ∧ w.frozen? ⟨g, j, none⟩ = false := by
  have hn : n = (xs.map (Value.int .i64)).length := by
    rcases h.1.2 with ⟨hv, _⟩ | ⟨g, cap, cur, hv, _⟩
    · simp at hv
    · simp only [Value.slice.injEq] at hv; exact hv.2.1
  have h1 := h.1
  rw [hn] at h1
  refine ⟨?_, h1.frozenAt j⟩
  rw [h1.cellAt j (by simpa using hj)]
  simp [List.getElem?_eq_getElem hj]

theorem OwnI.set {w : World} {B g n cap : Nat} {xs : List Int} (h : OwnI w B (.slice (some ⟨g, 0, none⟩) n cap) xs) (j : Nat) (y : Int) :
    OwnI (w.setCell ⟨g, j, none⟩ (.int .i64 y)) B (.slice (some ⟨g, 0, none⟩) n cap) (xs.set j y) ∧ w.grownBy (w.setCell ⟨g, j, none⟩ (.int .i64 y)) (some g) := by
  have hn : n = (xs.map (Value.int .i64)).length := by
    rcases h.1.2 with ⟨hv, _⟩ | ⟨g, cap, cur, hv, _⟩
    · simp at hv
    · simp only [Value.slice.injEq] at hv; exact hv.2.1
  have h1 := h.1
  rw [hn] at h1 ⊢
  obtain ⟨h2, h3⟩ := h1.stored j (.int .i64 y)
  refine ⟨⟨?_, by simpa using h.2⟩, h3⟩
  rw [List.map_set]
  simpa using h2

theorem grown_trans {a b c : World} {row : Option Nat} (h : a.grownBy b none) (k : b.grownBy c row) : a.grownBy c row :=
  ⟨k.os.trans h.os, k.tape.trans h.tape, k.output.trans h.output, Nat.le_trans h.size k.size, fun i hi hr => (k.block i (Nat.lt_of_lt_of_le hi h.size) hr).trans (h.block i hi (by simp))⟩

/-- make([]int, n) -/
theorem wp_make_int {ops : Array Oper} {rest : List Oper} {o : Oper} {a : Act} {Q : Exit → Act → World → Prop} (w : World) (hgd : o.guard = none) (l c : Operand)
    (ho : o.op = .makeSlice 22 l c) (n : Nat) (hl : a.eval l = .int .i64 (n : Int)) (hc : a.eval c = .int .i64 (n : Int)) (hn : n ≤ 1099511627776)
    (h : ∀ w', OwnI w' w.heap.size (.slice (some ⟨w.heap.size, 0, none⟩) n n) (List.replicate n 0) → Below w.heap.size w w' → w.heap.size < w'.heap.size → wpList Try.prog ops Q rest (a.put o.dst (.slice (some ⟨w.heap.size, 0, none⟩) n n)) w') :
    wpList Try.prog ops Q (o :: rest) a w := by
  obtain ⟨i0, hi, hz0, hz1, hz2⟩ := info_parts info_int
  refine wpList_make_full w hgd l c 22 ho w.heap.size 3 i0 (.int .i64 0) 1 Try.underlying22 hi hz0 hz1 .i64 .i64 _ _ n hl hc rfl rfl (by rw [hz2]; omega) (by unfold maxLen; omega) (Nat.le_refl _) fun w' hown hg => ?_
  refine h w' ⟨?_, by simpa using hn⟩ ((Below.refl _ _).grown hg (Nat.le_refl _) (fun k e => by cases e)) (hown.lt _ rfl).2
  rw [show (madeCells (Value.int IntKind.i64 0).cells (n * 1)).toList = (List.replicate n (0 : Int)).map (Value.int .i64) by simp [Value.cells, toList_madeCells_one]] at hown
  simpa using hown

/-- out = append(out, n): the world in which the one new cell has been laid -/
theorem wp_append_int {ops : Array Oper} {rest : List Oper} {o : Oper} {a : Act} {Q : Exit → Act → World → Prop} (w : World) (n : Int) (hgd : o.guard = none) (s x : Operand)
    (ho : o.op = .call { callee := .builtin .append, args := #[s, x], argTypes := #[22, 22] }) (B : Nat) (v : Value) (xs : List Int) (hs : a.eval s = v) (hown : OwnI w B v xs)
    {g : Nat} (hx : a.eval x = .slice (some ⟨g, 0, none⟩) 1 1) (hg : g = w.heap.size) (hlen : xs.length < 1099511627776) (hB : B ≤ w.heap.size)
    (h : ∀ v' w', OwnI w' B v' (xs ++ [n]) → w.grownBy w' v.ownBlock → Below B w w' → v' ≠ .slice none 0 0 → wpList Try.prog ops Q rest (a.put o.dst v') w') :
    wpList Try.prog ops Q (o :: rest) a (w.alloc (.cells #[.int .i64 n] 3)) := by
  subst hg
  obtain ⟨i0, hi, hz0, hz1, hz2⟩ := info_parts info_int
  have hal := World.grownBy_alloc w (.cells #[.int .i64 n] 3) none
  refine wpList_append_own _ hgd s x 22 ho B 3 i0 (.int .i64 0) 1 8 Try.underlying22 hi hz0 hz1 hz2 rfl (by decide) v xs.length (xs.map (Value.int .i64)) hs (by simpa using hown.1.alloc _) ⟨w.heap.size, 0, none⟩ 1 1 [.int .i64 n] hx rfl ?_ ?_
    (by unfold maxLen; omega) (by omega) (by simp; omega) fun v' w' h1 h2 h3 => ?_
  · intro j u hu
    rw [Addr.add_lit, World.cell?_alloc_at _ _ _ _ rfl]
    cases j with
    | zero => simpa using hu
    | succ j => simp at hu
  · intro u hu; simp at hu; subst hu; rfl
  · have hgr := grown_trans hal h2
    refine h v' w' ⟨by simpa using h1, by simp; omega⟩ hgr ((Below.refl _ _).grown hgr hB fun k hk => (hown.lt k hk).1) fun e => ?_
    have := (h3.1 e).2
    simp at this

/-- an empty slice that has just been laid -/
theorem own_empty (w : World) (B : Nat) (hB : B ≤ w.heap.size) : OwnI (w.alloc (.cells #[] 3)) B (.slice (some ⟨w.heap.size, 0, none⟩) 0 0) [] :=
  ⟨by simpa using World.ownsRow_made w #[] 0 hB (Nat.zero_le _) (by simp), by simp⟩
/-- a literal slice -/
theorem own_lit (w : World) (B : Nat) (xs : List Int) (cs : Array Value) (hcs : cs.toList = xs.map (Value.int .i64)) (hB : B ≤ w.heap.size) (hl : xs.length ≤ 1099511627776) : OwnI (w.alloc (.cells cs 3)) B (.slice (some ⟨w.heap.size, 0, none⟩) xs.length xs.length) xs := by
  have hsz : cs.size = xs.length := by rw [← Array.length_toList, hcs]; simp
  have := World.ownsRow_lit (e := 3) (size := 1) w cs xs.length hB (by unfold maxLen; omega) (by omega)
  rw [hcs] at this
  exact ⟨by simpa using this, by simpa using hl⟩
theorem own_nil (w : World) (B : Nat) : OwnI w B (.slice none 0 0) [] := ⟨by simpa using World.ownsRow_nil w B 3 1, by simp⟩

/-- element j of a slice that reads as integers, at the slice's own words -/
theorem Ints.at {w : World} {a : Option Addr} {n cap : Nat} {xs : List Int} (h : Ints w (.slice a n cap) xs) (j : Nat) (hj : j < xs.length) : ∃ b off, a = some ⟨b, off, none⟩ ∧ b < w.heap.size ∧ w.cell? ⟨b, off + j, none⟩ = some (.int .i64 xs[j]) := by
  obtain ⟨a', cap', e, hl, hc⟩ := h.out
  simp only [Value.slice.injEq] at e
  obtain ⟨rfl, rfl, rfl⟩ := e
  exact hc j hj

/-- a quiet callee in a region that draws its order -/
theorem quiet_add_left {P : Program} {f : FuncId} {args : Array Value} {w : World} {a n : Nat} {v : Value}
    (h : Calls P f args (w.drewN (a + n)) fun e w' => e = .returned v ∧ w.drewN (a + n) = w') :
    Calls P f args (w.drewN (a + n)) fun e w'' => e = .returned v ∧ ∃ m, w'' = w.drewN (a + m) :=
  h.mono fun _ _ ⟨he, hm⟩ => ⟨he, n, hm.symm⟩
theorem quiet_left {P : Program} {f : FuncId} {args : Array Value} {w : World} {n : Nat} {v : Value}
    (h : Calls P f args (w.drewN n) fun e w' => e = .returned v ∧ w.drewN n = w') : Calls P f args (w.drewN n) fun e w'' => e = .returned v ∧ ∃ m, w'' = w.drewN m :=
  h.mono fun _ _ ⟨he, hm⟩ => ⟨he, n, hm.symm⟩

theorem quiet_addN {P : Program} {f : FuncId} {args : Array Value} {w : World} {a n : Nat} {v : Value}
    (h : Calls P f args (w.drewN (a + n)) fun e w' => e = .returned v ∧ ∃ m, w' = (w.drewN (a + n)).drewN m) :
    Calls P f args (w.drewN (a + n)) fun e w'' => e = .returned v ∧ ∃ m, w'' = w.drewN (a + m) :=
  h.mono fun _ _ ⟨he, m, hm⟩ => ⟨he, n + m, by rw [hm, World.drewN_drewN, Nat.add_assoc]⟩
theorem quiet_N {P : Program} {f : FuncId} {args : Array Value} {w : World} {n : Nat} {v : Value}
    (h : Calls P f args (w.drewN n) fun e w' => e = .returned v ∧ ∃ m, w' = (w.drewN n).drewN m) : Calls P f args (w.drewN n) fun e w'' => e = .returned v ∧ ∃ m, w'' = w.drewN m :=
  h.mono fun _ _ ⟨he, m, hm⟩ => ⟨he, n + m, by rw [hm, World.drewN_drewN]⟩

theorem heap_alloc_at {w : World} {o : Obj} {k : Nat} (hk : k = w.heap.size) : (w.alloc o).heap[k]? = some o := by subst hk; exact heap_alloc_new _ _
/-- a block of three cells -/
theorem blk3 {w : World} {b : Nat} {v1 v2 v3 : Value} {t : TypeId} (h : w.heap[b]? = some (.cells #[v1, v2, v3] t (0, 0))) :
    (w.cell? ⟨b, 0, none⟩ = some v1 ∧ w.cell? ⟨b, 1, none⟩ = some v2 ∧ w.cell? ⟨b, 2, none⟩ = some v3) ∧ (w.frozen? ⟨b, 0, none⟩ = false ∧ w.frozen? ⟨b, 1, none⟩ = false ∧ w.frozen? ⟨b, 2, none⟩ = false) := by
  refine ⟨⟨?_, ?_, ?_⟩, ?_, ?_, ?_⟩ <;> simp [World.cell?, World.frozen?, h]
theorem blk_later {w w' : World} {b : Nat} {o : Obj} (hb : Below w.heap.size w w') (h : w.heap[b]? = some o) : w'.heap[b]? = some o :=
  (hb.block b (Array.getElem?_eq_some_iff.1 h).1).trans h
theorem blk_set {w : World} {g j : Nat} {c : Array Value} {t : TypeId} {f : Nat × Nat} {v : Value} (h : w.heap[g]? = some (.cells c t f)) : (w.setCell ⟨g, j, none⟩ v).heap[g]? = some (.cells (c.setIfInBounds j v) t f) := by
  simp [World.setCell, Array.getElem?_modify, h]
theorem blk_other {w : World} {g b j : Nat} {o : Obj} {v : Value} (h : w.heap[b]? = some o) (hne : b ≠ g) : (w.setCell ⟨g, j, none⟩ v).heap[b]? = some o :=
  (Below.heap_setCell w ⟨g, j, none⟩ v b hne).trans h

/-- what was there reads as before: two rules for the walk -/
theorem bcell {W w1 : World} (hb : Below W.heap.size W w1) : (∀ b o, b < W.heap.size → w1.cell? ⟨b, o, none⟩ = W.cell? ⟨b, o, none⟩) ∧ (∀ b o, b < W.heap.size → w1.frozen? ⟨b, o, none⟩ = W.frozen? ⟨b, o, none⟩) :=
  ⟨fun b o h => hb.cell (p := ⟨b, o, none⟩) h, fun b o h => hb.frozen (p := ⟨b, o, none⟩) h⟩

theorem bstep {w w1 w2 : World} (h : Below w.heap.size w w1) (k : Below w1.heap.size w1 w2) : Below w.heap.size w w2 := h.trans (k.mono h.size)

theorem take_all {α : Type} (p : α → Bool) (xs : List α) (k : Nat) (hk : k < xs.length) (h : (xs.take k).all p = true) (hp : p xs[k] = true) : (xs.take (k+1)).all p = true := by
  rw [List.take_succ_eq_append_getElem hk, List.all_append, h]; simp [hp]
theorem all_false {α : Type} (p : α → Bool) (xs : List α) (k : Nat) (hk : k < xs.length) (hp : p xs[k] = false) : xs.all p = false := by
  rw [Bool.eq_false_iff]; intro h; rw [List.all_eq_true] at h; have := h _ (List.getElem_mem hk); simp [hp] at this

end Go.Proofs.Ytmdpblckjeochaa
