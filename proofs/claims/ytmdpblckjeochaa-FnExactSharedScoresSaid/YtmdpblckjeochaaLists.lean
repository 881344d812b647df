/- Lists of lists of integers in memory, and the contracts of the laws' helpers on them; conditions: none. -/
import Derived.Test.YtmdpblckjeochaaBasic
namespace Go.Proofs.Ytmdpblckjeochaa
open Go.RowKit

theorem info_row : (Try.prog.info? 22).map (fun i => (i.zero, i.size, i.bytes)) = some (some (.slice none 0 0), 1, 24) := by kernel_rfl

/-- the slice value v reads as lists of integers -/
def Rows2 (w : World) (v : Value) (xss : List (List Int)) : Prop :=
  ∃ vs : List Value, Sl w v vs ∧ vs.length = xss.length ∧ ∀ i (h : i < vs.length) (h' : i < xss.length), Ints w vs[i] xss[i]

theorem Rows2.out {w : World} {v : Value} {xss : List (List Int)} (h : Rows2 w v xss) : ∃ a cap, v = .slice a xss.length cap ∧ xss.length ≤ 9223372036854775807 := by
  obtain ⟨vs, ⟨a, cap, rfl, hl, -⟩, hn, -⟩ := h
  exact ⟨a, cap, by rw [hn], by omega⟩
theorem Rows2.at {w : World} {a : Option Addr} {n cap : Nat} {xss : List (List Int)} (h : Rows2 w (.slice a n cap) xss) (j : Nat) (hj : j < xss.length) :
    ∃ b off a' cap', a = some ⟨b, off, none⟩ ∧ b < w.heap.size ∧ w.cell? ⟨b, off + j, none⟩ = some (.slice a' xss[j].length cap') ∧ Ints w (.slice a' xss[j].length cap') xss[j] := by
  obtain ⟨vs, ⟨a2, cap2, e, hl, hc⟩, hn, hr⟩ := h
  simp only [Value.slice.injEq] at e
  obtain ⟨rfl, rfl, rfl⟩ := e
  have hj' : j < vs.length := by omega
  obtain ⟨b, off, rfl, hb, hcell⟩ := hc j vs[j] (List.getElem?_eq_getElem hj')
  have hi := hr j hj' hj
  obtain ⟨a', cap', e, -, -⟩ := hi.out
  rw [e] at hcell hi
  exact ⟨b, off, a', cap', rfl, hb, hcell, hi⟩
theorem Rows2.below {w w' : World} {v : Value} {xss : List (List Int)} (h : Rows2 w v xss) (hb : Below w.heap.size w w') : Rows2 w' v xss := by
  obtain ⟨vs, hs, hn, hr⟩ := h
  exact ⟨vs, hs.below hb, hn, fun i h1 h2 => (hr i h1 h2).below hb⟩

/-- blocks outside F are as they were -/
structure KeptOff (F : Nat → Prop) (w w' : World) : Prop where
  os : w'.os = w.os
  tape : w'.tape = w.tape
  output : w'.output = w.output
  size : w.heap.size ≤ w'.heap.size
  block : ∀ k, k < w.heap.size → ¬ F k → w'.heap[k]? = w.heap[k]?
theorem KeptOff.refl (F : Nat → Prop) (w : World) : KeptOff F w w := ⟨rfl, rfl, rfl, Nat.le_refl _, fun _ _ _ => rfl⟩
theorem KeptOff.trans {F : Nat → Prop} {a b c : World} (h : KeptOff F a b) (k : KeptOff F b c) : KeptOff F a c :=
  ⟨k.os.trans h.os, k.tape.trans h.tape, k.output.trans h.output, Nat.le_trans h.size k.size, fun i hi hf => (k.block i (Nat.lt_of_lt_of_le hi h.size) hf).trans (h.block i hi hf)⟩
theorem KeptOff.mono {F G : Nat → Prop} {w w' : World} (h : KeptOff F w w') (hFG : ∀ k, F k → G k) : KeptOff G w w' :=
  ⟨h.os, h.tape, h.output, h.size, fun k hk hg => h.block k hk fun hf => hg (hFG k hf)⟩
theorem KeptOff.below {F : Nat → Prop} {w w' : World} (h : KeptOff F w w') {B : Nat} (hB : ∀ k, F k → B ≤ k) (hw : B ≤ w.heap.size) : Below B w w' :=
  ⟨h.os, h.tape, h.output, h.size, fun k hk => h.block k (by omega) fun hf => by have := hB k hf; omega⟩
theorem keptOff_grown {F : Nat → Prop} {w w' : World} {v : Value} (h : w.grownBy w' v.ownBlock) (hF : ∀ g, v.ownBlock = some g → F g) : KeptOff F w w' :=
  ⟨h.os, h.tape, h.output, h.size, fun k hk hf => h.block k hk fun e => hf (hF k e.symm)⟩
theorem keptOff_set (w : World) (b j : Nat) (v : Value) : KeptOff (fun k => k = b) w (w.setCell ⟨b, j, none⟩ v) :=
  ⟨rfl, rfl, rfl, by simp, fun k _ hk => Below.heap_setCell w ⟨b, j, none⟩ v k hk⟩
theorem OwnS.off {w w' : World} {B : Nat} {E : TypeId} {v : Value} {us : List Value} {F : Nat → Prop} (h : OwnS w B E v us) (hk : KeptOff F w w') (hd : ∀ g, v.ownBlock = some g → ¬ F g) : OwnS w' B E v us :=
  h.kept fun g hg => hk.block g (h.lt g hg).2 (hd g hg)
theorem OwnI.off {w w' : World} {B : Nat} {v : Value} {xs : List Int} {F : Nat → Prop} (h : OwnI w B v xs) (hk : KeptOff F w w') (hd : ∀ g, v.ownBlock = some g → ¬ F g) : OwnI w' B v xs := OwnS.off h hk hd

/-- lists of lists in blocks of the call's own (all in F), no two rows in one block -/
def OwnR (w : World) (B : Nat) (F : Nat → Prop) (v : Value) (xss : List (List Int)) : Prop :=
  ∃ vs : List Value, OwnS w B 22 v vs ∧ vs.length = xss.length ∧ (∀ i (h : i < vs.length) (h' : i < xss.length), OwnI w B vs[i] xss[i]) ∧
    (∀ i j (_ : i < vs.length) (_ : j < vs.length), i ≠ j → ∀ g, vs[i].ownBlock = some g → vs[j].ownBlock ≠ some g) ∧
    (∀ g, v.ownBlock = some g → F g) ∧ (∀ i (_ : i < vs.length) g, vs[i].ownBlock = some g → F g)

theorem OwnR.rows {w : World} {B : Nat} {F : Nat → Prop} {v : Value} {xss : List (List Int)} (h : OwnR w B F v xss) : Rows2 w v xss := by
  obtain ⟨vs, hs, hn, hr, -⟩ := h
  exact ⟨vs, hs.sl, hn, fun i h1 h2 => (hr i h1 h2).ints⟩
theorem OwnR.mono {w : World} {B B' : Nat} {F G : Nat → Prop} {v : Value} {xss : List (List Int)} (h : OwnR w B F v xss) (hB : B' ≤ B) (hFG : ∀ k, F k → G k) : OwnR w B' G v xss := by
  obtain ⟨vs, hs, hn, hr, hd, hf, hg⟩ := h
  exact ⟨vs, hs.mono hB, hn, fun i h1 h2 => (hr i h1 h2).mono hB, hd, fun g e => hFG g (hf g e), fun i hi g e => hFG g (hg i hi g e)⟩
theorem OwnR.below {w w' : World} {B : Nat} {F : Nat → Prop} {v : Value} {xss : List (List Int)} (h : OwnR w B F v xss) (hb : Below w.heap.size w w') : OwnR w' B F v xss := by
  obtain ⟨vs, hs, hn, hr, hd⟩ := h
  exact ⟨vs, hs.below hb (Nat.le_refl _), hn, fun i h1 h2 => (hr i h1 h2).below hb, hd⟩
theorem OwnR.off {w w' : World} {B : Nat} {F G : Nat → Prop} {v : Value} {xss : List (List Int)} (h : OwnR w B F v xss) (hk : KeptOff G w w') (hd : ∀ g, F g → ¬ G g) : OwnR w' B F v xss := by
  obtain ⟨vs, hs, hn, hr, hdd, hf, hg⟩ := h
  exact ⟨vs, hs.off hk fun g e => hd g (hf g e), hn, fun i h1 h2 => (hr i h1 h2).off hk fun g e => hd g (hg i h1 g e), hdd, hf, hg⟩
theorem OwnR.le {w : World} {B : Nat} {F : Nat → Prop} {v : Value} {xss : List (List Int)} (h : OwnR w B F v xss) : xss.length ≤ 1099511627776 := by
  obtain ⟨vs, hs, hn, -⟩ := h
  have := hs.2
  omega
theorem OwnR.isIn {w : World} {B : Nat} {F : Nat → Prop} {v : Value} {xss : List (List Int)} (h : OwnR w B F v xss) : OwnR w B (fun k => B ≤ k ∧ k < w.heap.size) v xss := by
  obtain ⟨vs, hs, hn, hr, hd, -, -⟩ := h
  exact ⟨vs, hs, hn, hr, hd, hs.lt, fun i h1 g e => OwnS.lt (hr i h1 (by omega)) g e⟩

/-- the first k rows are laid -/
def PartR (w : World) (B : Nat) (v : Value) (n : Nat) (xss : List (List Int)) (k : Nat) : Prop :=
  ∃ vs : List Value, OwnS w B 22 v vs ∧ vs.length = n ∧ (∀ i (h : i < vs.length) (h' : i < xss.length), i < k → OwnI w B vs[i] xss[i]) ∧
    (∀ i j (_ : i < vs.length) (_ : j < vs.length), i < k → j < k → i ≠ j → ∀ g, vs[i].ownBlock = some g → vs[j].ownBlock ≠ some g)
theorem PartR.below {w w' : World} {B n k : Nat} {v : Value} {xss : List (List Int)} (h : PartR w B v n xss k) (hb : Below w.heap.size w w') : PartR w' B v n xss k := by
  obtain ⟨vs, hs, hn, hr, hd⟩ := h
  exact ⟨vs, hs.below hb (Nat.le_refl _), hn, fun i h1 h2 h3 => (hr i h1 h2 h3).below hb, hd⟩
theorem PartR.all {w : World} {B : Nat} {v : Value} {xss : List (List Int)} (h : PartR w B v xss.length xss xss.length) : OwnR w B (fun k => B ≤ k ∧ k < w.heap.size) v xss := by
  obtain ⟨vs, hs, hn, hr, hd⟩ := h
  exact ⟨vs, hs, hn, fun i h1 h2 => hr i h1 h2 h2, fun i j h1 h2 => hd i j h1 h2 (by omega) (by omega), hs.lt, fun i h1 g e => OwnS.lt (hr i h1 (by omega) (by omega)) g e⟩

theorem OwnS.set {w : World} {B g n cap : Nat} {E : TypeId} {us : List Value} (h : OwnS w B E (.slice (some ⟨g, 0, none⟩) n cap) us) (j : Nat) (u : Value) :
    OwnS (w.setCell ⟨g, j, none⟩ u) B E (.slice (some ⟨g, 0, none⟩) n cap) (us.set j u) ∧ w.grownBy (w.setCell ⟨g, j, none⟩ u) (some g) := by
  have hn : n = us.length := by
    rcases h.1.2 with ⟨hv, _⟩ | ⟨g, cap, cur, hv, _⟩
    · simp at hv
    · simp only [Value.slice.injEq] at hv; exact hv.2.1
  have h1 := h.1
  rw [hn] at h1 ⊢
  obtain ⟨h2, h3⟩ := h1.stored j u
  exact ⟨⟨by simpa using h2, by simpa using h.2⟩, h3⟩
theorem OwnS.cell {w : World} {B g n cap : Nat} {E : TypeId} {us : List Value} (h : OwnS w B E (.slice (some ⟨g, 0, none⟩) n cap) us) (j : Nat) (hj : j < us.length) : w.cell? ⟨g, j, none⟩ = some us[j] ∧ w.frozen? ⟨g, j, none⟩ = false := by
  have hn : n = us.length := by
    rcases h.1.2 with ⟨hv, _⟩ | ⟨g, cap, cur, hv, _⟩
    · simp at hv
    · simp only [Value.slice.injEq] at hv; exact hv.2.1
  have h1 := h.1
  rw [hn] at h1
  refine ⟨?_, h1.frozenAt j⟩
  rw [h1.cellAt j (by omega)]
  simp [List.getElem?_eq_getElem hj]

/-- the next row is stored -/
theorem PartR.store {w w1 : World} {B g n cap k : Nat} {xss : List (List Int)} {v' : Value} (h : PartR w B (.slice (some ⟨g, 0, none⟩) n cap) n xss k) (hk : k < n) (hk' : k < xss.length)
    (hb : Below w.heap.size w w1) (hv : OwnI w1 w.heap.size v' xss[k]) (hB : B ≤ w.heap.size) :
    (∃ u, w1.cell? ⟨g, k, none⟩ = some u) ∧ w1.frozen? ⟨g, k, none⟩ = false ∧ PartR (w1.setCell ⟨g, k, none⟩ v') B (.slice (some ⟨g, 0, none⟩) n cap) n xss (k + 1) := by
  obtain ⟨vs, hs, hn, hr, hd⟩ := h
  have hs1 := hs.below hb (Nat.le_refl _)
  obtain ⟨hc, hf⟩ := hs1.cell k (by omega)
  obtain ⟨hs2, hg2⟩ := hs1.set k v'
  have keep : ∀ {u : Value} {xs : List Int} {C : Nat}, OwnI w1 C u xs → OwnI (w1.setCell ⟨g, k, none⟩ v') C u xs := fun {u xs C} ho =>
    ho.grown hg2 fun q e e' => by
      obtain rfl := Option.some.inj e'
      exact OwnS.apart ho hs1 (by decide) e rfl
  refine ⟨⟨_, hc⟩, hf, vs.set k v', hs2, by simpa using hn, fun i h1 h2 h3 => ?_, fun i j h1 h2 h3 h4 hne q e => ?_⟩
  · simp only [List.length_set] at h1
    rw [List.getElem_set]
    split
    · next e => subst e; exact keep (hv.mono hB)
    · next e => exact keep ((hr i h1 h2 (by omega)).below hb)
  · simp only [List.length_set] at h1 h2
    rw [List.getElem_set] at e ⊢
    split at e
    · next e1 =>
      rw [if_neg (by omega)]
      intro e2
      have a1 := OwnS.lt hv q e
      have a2 := OwnS.lt (hr j h2 (by omega) (by omega)) q e2
      omega
    · next e1 =>
      split
      · next e2 =>
        intro e3
        have a1 := OwnS.lt hv q e3
        have a2 := OwnS.lt (hr i h1 (by omega) (by omega)) q e
        omega
      · next e2 => exact hd i j h1 h2 (by omega) (by omega) hne q e

/-- make([][]int, n) -/
theorem wp_make_row {ops : Array Oper} {rest : List Oper} {o : Oper} {a : Act} {Q : Exit → Act → World → Prop} (w : World) (hgd : o.guard = none) (l c : Operand)
    (ho : o.op = .makeSlice 40 l c) (n : Nat) (hl : a.eval l = .int .i64 (n : Int)) (hc : a.eval c = .int .i64 (n : Int)) (hn : n ≤ 1099511627776) (xss : List (List Int))
    (h : ∀ w', PartR w' w.heap.size (.slice (some ⟨w.heap.size, 0, none⟩) n n) n xss 0 → Below w.heap.size w w' → w.heap.size < w'.heap.size → wpList Try.prog ops Q rest (a.put o.dst (.slice (some ⟨w.heap.size, 0, none⟩) n n)) w') :
    wpList Try.prog ops Q (o :: rest) a w := by
  obtain ⟨i0, hi, hz0, hz1, hz2⟩ := info_parts info_row
  refine wpList_make_full w hgd l c 40 ho w.heap.size 22 i0 (.slice none 0 0) 1 Try.underlying40 hi hz0 hz1 .i64 .i64 _ _ n hl hc rfl rfl (by rw [hz2]; omega) (by unfold maxLen; omega) (Nat.le_refl _) fun w' hown hg => ?_
  refine h w' ⟨List.replicate n (.slice none 0 0), ⟨?_, by simpa using hn⟩, by simp, fun i _ _ h3 => by omega, fun i j _ _ h3 => by omega⟩ ((Below.refl _ _).grown hg (Nat.le_refl _) (fun k e => by cases e)) (hown.lt _ rfl).2
  rw [show (madeCells (Value.slice none 0 0).cells (n * 1)).toList = List.replicate n (Value.slice none 0 0) by simp [Value.cells, toList_madeCells_one]] at hown
  simpa using hown

theorem OwnR.outer {w : World} {B : Nat} {F : Nat → Prop} {v : Value} {xss : List (List Int)} (h : OwnR w B F v xss) : ∃ vs, OwnS w B 22 v vs ∧ vs.length = xss.length := by
  obtain ⟨vs, hs, hn, -⟩ := h
  exact ⟨vs, hs, hn⟩

/-- out = append(out, row): the world in which the one new cell has been laid -/
theorem wp_append_row {ops : Array Oper} {rest : List Oper} {o : Oper} {a : Act} {Q : Exit → Act → World → Prop} (w : World) (r : Value) (hgd : o.guard = none) (s x : Operand)
    (ho : o.op = .call { callee := .builtin .append, args := #[s, x], argTypes := #[40, 40] }) (B : Nat) (F : Nat → Prop) (v : Value) (xss : List (List Int)) (hs : a.eval s = v) (hown : OwnR w B F v xss)
    (ys : List Int) (hr : OwnI w B r ys) (hd : ∀ g, r.ownBlock = some g → ¬ F g)
    {g : Nat} (hx : a.eval x = .slice (some ⟨g, 0, none⟩) 1 1) (hg : g = w.heap.size) (hlen : xss.length < 1099511627776) (hB : B ≤ w.heap.size)
    (h : ∀ v' w', OwnR w' B (fun k => B ≤ k ∧ k < w'.heap.size) v' (xss ++ [ys]) → w.grownBy w' v.ownBlock → Below B w w' → v' ≠ .slice none 0 0 → wpList Try.prog ops Q rest (a.put o.dst v') w') :
    wpList Try.prog ops Q (o :: rest) a (w.alloc (.cells #[r] 22)) := by
  subst hg
  obtain ⟨vs, hvs, hn, hrs, hdd, hf, hfs⟩ := hown
  obtain ⟨i0, hi, hz0, hz1, hz2⟩ := info_parts info_row
  have hal := World.grownBy_alloc w (.cells #[r] 22) none
  have hone : r.oneCell' = true := by
    obtain ⟨a', c', e, -, -⟩ := hr.ints.out
    rw [e]; rfl
  refine wpList_append_own _ hgd s x 40 ho B 22 i0 (.slice none 0 0) 1 24 Try.underlying40 hi hz0 hz1 hz2 rfl (by decide) v vs.length vs hs (hvs.1.alloc _) ⟨w.heap.size, 0, none⟩ 1 1 [r] hx rfl ?_ ?_
    (by unfold maxLen; omega) (by omega) (by simp; omega) fun v' w' h1 h2 h3 => ?_
  · intro j u hu
    rw [Addr.add_lit, World.cell?_alloc_at _ _ _ _ rfl]
    cases j with
    | zero => simpa using hu
    | succ j => simp at hu
  · intro u hu; simp at hu; subst hu; exact hone
  · have hgr := grown_trans hal h2
    have kr : OwnI w' B r ys := hr.grown hgr fun g e e' => OwnS.apart hr hvs (by decide) e e'
    have krs : ∀ i (h1 : i < vs.length) (h2 : i < xss.length), OwnI w' B vs[i] xss[i] := fun i h1 h2 => (hrs i h1 h2).grown hgr fun g e e' => OwnS.apart (hrs i h1 h2) hvs (by decide) e e'
    have hown2 : OwnS w' B 22 v' (vs ++ [r]) := ⟨by simpa using h1, by simp; omega⟩
    refine h v' w' (OwnR.isIn ⟨vs ++ [r], hown2, by simp [hn], fun i h1 h2 => ?_, fun i j h1 h2 hne q e => ?_, hown2.lt, fun i h1 q e => ?_⟩ (F := fun k => B ≤ k ∧ k < w'.heap.size)) hgr ((Below.refl _ _).grown hgr hB fun k hk => (hvs.lt k hk).1) fun e => ?_
    · simp only [List.length_append, List.length_singleton] at h1 h2
      by_cases hi : i < vs.length
      · rw [List.getElem_append_left hi, List.getElem_append_left (by omega)]; exact krs i hi (by omega)
      · obtain rfl : i = vs.length := by omega
        simp [hn, kr]
    · simp only [List.length_append, List.length_singleton] at h1 h2
      by_cases hi : i < vs.length <;> by_cases hj : j < vs.length
      · rw [List.getElem_append_left hi] at e
        rw [List.getElem_append_left hj]
        exact hdd i j hi hj hne q e
      · obtain rfl : j = vs.length := by omega
        rw [List.getElem_append_left hi] at e
        simp only [Nat.le_refl, List.getElem_append_right, Nat.sub_self, List.getElem_singleton]
        intro e2
        exact hd q e2 (hfs i hi q e)
      · obtain rfl : i = vs.length := by omega
        simp only [Nat.le_refl, List.getElem_append_right, Nat.sub_self, List.getElem_singleton] at e
        rw [List.getElem_append_left hj]
        intro e2
        exact hd q e (hfs j hj q e2)
      · omega
    · simp only [List.length_append, List.length_singleton] at h1
      by_cases hi : i < vs.length
      · rw [List.getElem_append_left hi] at e; exact OwnS.lt (krs i hi (by omega)) q e
      · obtain rfl : i = vs.length := by omega
        simp only [Nat.le_refl, List.getElem_append_right, Nat.sub_self, List.getElem_singleton] at e
        exact OwnS.lt kr q e
    · have := (h3.1 e).2
      simp at this
theorem ownR_empty (w : World) (B : Nat) (hB : B ≤ w.heap.size) : OwnR (w.alloc (.cells #[] 22)) B (fun k => B ≤ k ∧ k < (w.alloc (.cells #[] 22)).heap.size) (.slice (some ⟨w.heap.size, 0, none⟩) 0 0) [] := by
  have ho : OwnS (w.alloc (.cells #[] 22)) B 22 (.slice (some ⟨w.heap.size, 0, none⟩) 0 0) [] := ⟨by simpa using World.ownsRow_made w #[] 0 hB (Nat.zero_le _) (by simp), by simp⟩
  exact ⟨[], ho, rfl, fun i h => by simp at h, fun i j h => by simp at h, ho.lt, fun i h => by simp at h⟩
theorem ownR_nil (w : World) (B : Nat) (F : Nat → Prop) : OwnR w B F (.slice none 0 0) [] :=
  ⟨[], ⟨by simpa using World.ownsRow_nil w B 22 1, by simp⟩, rfl, fun i h => by simp at h, fun i j h => by simp at h, fun g h => by simp [Value.ownBlock] at h, fun i h => by simp at h⟩

/-- a list of lists in which every list is short -/
def Small2 (xss : List (List Int)) : Prop := xss.length ≤ 1048576 ∧ (∀ r ∈ xss, r.length ≤ 1048576) ∧ xss.length + (xss.map List.length).sum ≤ 1099511627776

theorem c_szIntS (v : Value) (xs : List Int) (left : Int) (w : World) (h : Ints w v xs) (hl : -1 ≤ left ∧ left ≤ 1048576) :
    Calls Try.prog 78 #[v, .int .i64 left] w fun e w' => ∃ q : Int, e = .returned (.int .i64 q) ∧ (-1 ≤ q ∧ q ≤ 1048576 ∧ (0 ≤ q → xs.length ≤ 1048576 ∧ q + xs.length ≤ left)) ∧ w = w' := by
  obtain ⟨ad, cap, rfl, hl, -⟩ := h.out
  by_cases hs : left - xs.length < 0
  all_goals
    go_enter Try.func78, Try.ntmps78
    go_wp2
    go_ret
    exact ⟨_, rfl, by omega, rfl⟩

theorem c_szIntSS (v : Value) (xss : List (List Int)) (left : Int) (w : World) (h : Rows2 w v xss) (hl : -1 ≤ left ∧ left ≤ 1048576) :
    Calls Try.prog 41 #[v, .int .i64 left] w fun e w' => ∃ q : Int, e = .returned (.int .i64 q) ∧ (-1 ≤ q ∧ q ≤ 1048576 ∧ (0 ≤ q → Small2 xss)) ∧ w = w' := by
  obtain ⟨ad, cap, rfl, hm⟩ := h.out
  by_cases hs : left - xss.length < 0
  · go_enter Try.func41, Try.ntmps41
    go_wp2
    go_ret
    exact ⟨_, rfl, by omega, rfl⟩
  · go_enter Try.func41, Try.ntmps41
    go_wp2
    go_loop [1, 5] (fun q i => ∃ (k : Nat) (z : Int), k ≤ xss.length ∧ i = .int .i64 k ∧ q = .int .i64 z ∧ 0 ≤ z ∧ z ≤ 1048576 ∧ Hid (∀ r ∈ xss.take k, r.length ≤ 1048576) ∧ Hid (z + (((xss.take k).map List.length).sum : Nat) + xss.length ≤ 1048576)) (fun _ i => xss.length - (intOf i).toNat)
    case atStart => exact ⟨0, _, Nat.zero_le _, rfl, rfl, by omega, by omega, Lib.hid (by simp), Lib.hid (by simp; omega)⟩
    case round =>
      obtain ⟨k, z, hk, rfl, rfl, hz0, hz1, hall, hsum⟩ := hrel
      by_cases hlt : k < xss.length
      · obtain ⟨bl, off, a', cap', rfl, hb, hcell, hi⟩ := h.at k hlt
        go_wp2_with fail
        refine (c_szIntS _ xss[k] z _ hi (by omega)).mono ?_
        rintro e _ ⟨q, rfl, hq, rfl⟩
        obtain ⟨hq0, hq1, hq2⟩ := hq
        replace hq2 := Lib.hid hq2
        by_cases hq : q < 0
        · go_wp2
          go_ret
          exact ⟨_, rfl, by omega, rfl⟩
        · have hall' : Hid (∀ r ∈ xss.take (k+1), r.length ≤ 1048576) := Lib.hid (by
            intro r hr
            rw [List.take_succ_eq_append_getElem hlt, List.mem_append] at hr
            rcases hr with hr | hr
            · exact hall.out r hr
            · simp only [List.mem_singleton] at hr; subst hr; exact (hq2.out (by omega)).1)
          have hsum' : Hid (q + (((xss.take (k+1)).map List.length).sum : Nat) + xss.length ≤ 1048576) := Lib.hid (by
            have a := (hq2.out (by omega)).2
            have b := hsum.out
            rw [List.take_succ_eq_append_getElem hlt, List.map_append, List.sum_append]
            simp only [List.map_cons, List.map_nil, List.sum_cons, List.sum_nil]
            omega)
          go_wp2
          go_round
          case rel => exact ⟨k + 1, q, by omega, by go_num, rfl, by omega, by omega, hall', hsum'⟩
          case measure => simp [intOf]; omega
      · obtain rfl : k = xss.length := by omega
        go_wp2
        go_ret
        exact ⟨_, rfl, ⟨by omega, by omega, fun _ => ⟨by omega, by simpa using hall.out, by have := hsum.out; rw [List.take_length] at this; omega⟩⟩, rfl⟩

theorem c_eqIntSS (v u : Value) (xss yss : List (List Int)) (w : World) (h : Rows2 w v xss) (g : Rows2 w u yss) :
    Calls Try.prog 45 #[v, u] w fun e w' => e = .returned (.bool (decide (xss = yss))) ∧ ∃ m, w' = w.drewN m := by
  obtain ⟨ad, cap, rfl, hl⟩ := h.out
  obtain ⟨ad', cap', rfl, hl'⟩ := g.out
  go_enter Try.func45, Try.ntmps45
  by_cases hn : xss.length = yss.length
  · have hne : ((xss.length : Int) != (yss.length : Int)) = false := by rw [hn]; simp
    replace hn := Lib.hid hn
    go_wp2
    go_loopw [5] (fun i wr => ∃ k : Nat, k ≤ xss.length ∧ i = .int .i64 k ∧ Hid (xss.take k = yss.take k) ∧ Hid (∃ m, wr = w.drewN m)) (fun i _ => xss.length - (intOf i).toNat)
    case atStart => exact ⟨0, Nat.zero_le _, rfl, rfl, 0, rfl⟩
    case round =>
      obtain ⟨k, hk, rfl, HA, hB⟩ := hrel
      obtain ⟨m, rfl⟩ := hB.out
      clear hB
      by_cases hlt : k < xss.length
      · have hlt' : k < yss.length := by have := hn.out; omega
        obtain ⟨bl, off, a1, c1, rfl, hb, hcell, hi⟩ := h.at k hlt
        obtain ⟨bl', off', a2, c2, rfl, hb', hcell', hi'⟩ := g.at k hlt'
        cases hx : decide (xss[k] = yss[k])
        · have hF : Hid (decide (xss = yss) = false) := Lib.hid (by
            rw [decide_eq_false_iff_not]; intro e; subst e; simp at hx)
          go_wp2_with fail
          go_quiet ((go_at_call 19; exact quiet_addN (c_eqIntSq _ _ xss[k] yss[k] _ (hi.below (below_drewN (Below.refl _ _) _)) (hi'.below (below_drewN (Below.refl _ _) _)))))
          all_goals go_wp2
          go_ret
          exact ⟨by rw [hF.out]; rfl, _, by first | rfl | exact World.drewN_drewN _ _ _⟩
        · have hF : Hid (xss.take (k+1) = yss.take (k+1)) := Lib.hid (by rw [List.take_succ_eq_append_getElem hlt, List.take_succ_eq_append_getElem hlt', HA.out, show xss[k] = yss[k] by simpa using hx])
          go_wp2_with fail
          go_quiet ((go_at_call 19; exact quiet_addN (c_eqIntSq _ _ xss[k] yss[k] _ (hi.below (below_drewN (Below.refl _ _) _)) (hi'.below (below_drewN (Below.refl _ _) _)))))
          all_goals go_wp2
          all_goals go_roundw
          case rel => exact ⟨k + 1, by omega, by go_num, hF, Lib.hid ⟨_, by first | rfl | exact World.drewN_drewN _ _ _⟩⟩
          case measure => simp [intOf]; omega
      · obtain rfl : k = xss.length := by omega
        have hF : Hid (decide (xss = yss) = true) := Lib.hid (by
          have := HA.out; rw [hn.out, List.take_of_length_le (by rw [hn.out]; exact Nat.le_refl _), List.take_of_length_le (Nat.le_refl _)] at this; simpa using this)
        go_wp2
        go_ret
        exact ⟨by rw [hF.out]; rfl, _, rfl⟩
  · have hne : ((xss.length : Int) != (yss.length : Int)) = true := by simpa using fun e => hn (by omega)
    have hF : Hid (decide (xss = yss) = false) := Lib.hid (by rw [decide_eq_false_iff_not]; intro e; exact hn (by rw [e]))
    clear hn
    go_wp2
    go_ret
    exact ⟨by rw [hF.out]; rfl, 0, rfl⟩
theorem c_eqIntSS_same (v u : Value) (xss : List (List Int)) (w : World) (h : Rows2 w v xss) (g : Rows2 w u xss) :
    Calls Try.prog 45 #[v, u] w fun e w' => e = .returned (.bool true) ∧ Below w.heap.size w w' :=
  (c_eqIntSS v u xss xss w h g).mono fun e w' ⟨he, m, hw⟩ => ⟨by rw [he]; simp, by rw [hw]; exact below_drewN (Below.refl _ _) m⟩

set_option maxHeartbeats 400000 in
theorem c_toIntSS (v : Value) (xss : List (List Int)) (w : World) (h : Rows2 w v xss) (hs : Small2 xss) :
    Calls Try.prog 43 #[v] w fun e w' => ∃ v', e = .returned v' ∧ OwnR w' w.heap.size (fun k => w.heap.size ≤ k ∧ k < w'.heap.size) v' xss ∧ Below w.heap.size w w' := by
  obtain ⟨ad, cap, rfl, hl⟩ := h.out
  obtain ⟨hs1, hs2, -⟩ := hs
  replace hs2 := Lib.hid hs2
  go_enter Try.func43, Try.ntmps43
  go_wp2_with (at_make; refine wp_make_row _ rfl _ _ rfl xss.length rfl rfl (by omega) xss ?_)
  intro w1 hown hB hz
  go_wp2_with fail
  go_loopw [4] (fun i wr => ∃ k : Nat, k ≤ xss.length ∧ i = .int .i64 k ∧ PartR wr w.heap.size (.slice (some ⟨w.heap.size, 0, none⟩) xss.length xss.length) xss.length xss k ∧ Below w.heap.size w wr) (fun i _ => xss.length - (intOf i).toNat)
  case atStart => exact ⟨0, Nat.zero_le _, rfl, hown, hB⟩
  case round =>
    obtain ⟨k, hk, rfl, hown, hB⟩ := hrel
    have hsz := hB.size
    by_cases hlt : k < xss.length
    · obtain ⟨bl, off, a', cap', rfl, hb, hcell, hi⟩ := (h.below hB).at k hlt
      go_wp2_with fail
      refine (c_toIntS _ xss[k] _ hi (by have := hs2.out _ (List.getElem_mem hlt); omega)).mono ?_
      rintro e w2 ⟨v', rfl, hv', hb2⟩
      obtain ⟨⟨u, hc⟩, hf, hst⟩ := hown.store hlt hlt hb2 hv' hsz
      obtain ⟨a2, c2, rfl, -, -⟩ := hv'.ints.out
      go_wp2
      go_roundw
      case rel => exact ⟨k + 1, by omega, by go_num, hst, (bstep hB hb2).setCell (Nat.le_refl _) _⟩
      case measure => simp [intOf]; omega
    · obtain rfl : k = xss.length := by omega
      go_wp2
      go_ret
      exact ⟨_, rfl, hown.all, hB⟩

/-! ### marks on lists of lists -/
def totR (xss : List (List Int)) : Nat := (xss.map List.length).sum
def marksR (k : Int) : List (List Int) → List (List Int)
  | [] => []
  | r :: rs => marks k r.length :: marksR (k + (r.length : Int)) rs
theorem totR_append (a b : List (List Int)) : totR (a ++ b) = totR a + totR b := by simp [totR]
theorem marksR_len (k : Int) (xss : List (List Int)) : (marksR k xss).length = xss.length := by
  induction xss generalizing k with
  | nil => rfl
  | cons r rs ih => simp [marksR, ih]
theorem marksR_snoc (k : Int) (xss : List (List Int)) (r : List Int) : marksR k (xss ++ [r]) = marksR k xss ++ [marks (k + (totR xss : Int)) r.length] := by
  induction xss generalizing k with
  | nil => simp [marksR, totR]
  | cons x rs ih =>
    simp only [List.cons_append, marksR, ih]
    congr 2
    simp [totR]
    congr 1
    omega
theorem marksR_app (k : Int) (xss yss : List (List Int)) : marksR k (xss ++ yss) = marksR k xss ++ marksR (k + (totR xss : Int)) yss := by
  induction xss generalizing k with
  | nil => simp [marksR, totR]
  | cons x rs ih =>
    simp only [List.cons_append, marksR, ih]
    congr 3
    simp [totR]
    omega
theorem marksR_tot (k : Int) (xss : List (List Int)) : totR (marksR k xss) = totR xss := by
  induction xss generalizing k with
  | nil => rfl
  | cons r rs ih =>
    have := ih (k + (r.length : Int))
    simp only [totR, marksR, List.map_cons, List.sum_cons, marks_len] at this ⊢
    omega
theorem totR_take_succ (xss : List (List Int)) (j : Nat) (h : j < xss.length) : totR (xss.take (j + 1)) = totR (xss.take j) + xss[j].length := by
  rw [List.take_succ_eq_append_getElem h, totR_append]; simp [totR]
theorem totR_take_le (xss : List (List Int)) (j : Nat) : totR (xss.take j) ≤ totR xss := by
  have := totR_append (xss.take j) (xss.drop j)
  rw [List.take_append_drop] at this
  omega
def markedR (k : Int) (xss : List (List Int)) (j : Nat) : List (List Int) := marksR k (xss.take j) ++ xss.drop j
theorem markedR_len (k : Int) (xss : List (List Int)) (j : Nat) (h : j ≤ xss.length) : (markedR k xss j).length = xss.length := by
  simp only [markedR, List.length_append, marksR_len, List.length_take, List.length_drop]; omega
theorem markedR_get (k : Int) (xss : List (List Int)) (j : Nat) (h : j < xss.length) (h' : j < (markedR k xss j).length) : (markedR k xss j)[j] = xss[j] := by
  have e : (marksR k (xss.take j)).length = j := by rw [marksR_len]; simp; omega
  have : (markedR k xss j)[j]? = some xss[j] := by
    unfold markedR
    rw [List.getElem?_append_right (by omega), e]
    simp [h]
  exact (List.getElem?_eq_some_iff.1 this).2
theorem marksR_get (k : Int) (xss : List (List Int)) (j : Nat) (h : j < xss.length) (h' : j < (marksR k xss).length) : (marksR k xss)[j] = marks (k + (totR (xss.take j) : Int)) xss[j].length := by
  have e : (marksR k (xss.take j)).length = j := by rw [marksR_len]; simp; omega
  have s : marksR k (xss.take (j + 1) ++ xss.drop (j + 1)) = marksR k (xss.take (j + 1)) ++ marksR (k + (totR (xss.take (j + 1)) : Int)) (xss.drop (j + 1)) := marksR_app _ _ _
  have : (marksR k xss)[j]? = some (marks (k + (totR (xss.take j) : Int)) xss[j].length) := by
    rw [List.take_append_drop] at s
    rw [s, List.take_succ_eq_append_getElem h, marksR_snoc, List.append_assoc, List.getElem?_append_right (by omega), e]
    simp
  exact (List.getElem?_eq_some_iff.1 this).2
theorem markedR_set (k : Int) (xss : List (List Int)) (j : Nat) (h : j < xss.length) : (markedR k xss j).set j (marks (k + (totR (xss.take j) : Int)) xss[j].length) = markedR k xss (j + 1) := by
  unfold markedR
  have e : (marksR k (xss.take j)).length = j := by rw [marksR_len]; simp; omega
  rw [List.set_append_right _ _ (by omega), e, Nat.sub_self, List.drop_eq_getElem_cons h, List.set_cons_zero, List.take_succ_eq_append_getElem h, marksR_snoc, List.append_assoc]
  rfl

/-- one row is written in place -/
theorem OwnR.row {w : World} {B : Nat} {F : Nat → Prop} {a : Option Addr} {n cap : Nat} {xss : List (List Int)} (h : OwnR w B F (.slice a n cap) xss) (j : Nat) (hj : j < xss.length) :
    ∃ b off a' cap', a = some ⟨b, off, none⟩ ∧ b < w.heap.size ∧ w.cell? ⟨b, off + j, none⟩ = some (.slice a' xss[j].length cap') ∧ OwnI w B (.slice a' xss[j].length cap') xss[j] ∧
      ∀ w1 ys, w.grownBy w1 (Value.slice a' xss[j].length cap').ownBlock → OwnI w1 B (.slice a' xss[j].length cap') ys → OwnR w1 B F (.slice a n cap) (xss.set j ys) ∧ KeptOff F w w1 := by
  obtain ⟨vs, hs, hn, hr, hd, hf, hg⟩ := h
  have hj' : j < vs.length := by omega
  obtain ⟨a2, cap2, e, hl, hc⟩ := hs.sl
  simp only [Value.slice.injEq] at e
  obtain ⟨rfl, rfl, rfl⟩ := e
  obtain ⟨b, off, rfl, hb, hcell⟩ := hc j vs[j] (List.getElem?_eq_getElem hj')
  have hi := hr j hj' hj
  obtain ⟨a', cap', e, -, -⟩ := hi.ints.out
  refine ⟨b, off, a', cap', rfl, hb, by rw [hcell, e], by rw [← e]; exact hi, fun w1 ys hgr hy => ?_⟩
  rw [← e] at hgr hy
  have hk : KeptOff F w w1 := keptOff_grown hgr (hg j hj')
  refine ⟨⟨vs, hs.kept fun g eg => hgr.block g (hs.lt g eg).2 fun e2 => OwnS.apart hi hs (by decide) e2.symm eg, by simpa using hn, fun i h1 h2 => ?_, hd, hf, hg⟩, hk⟩
  rw [List.getElem_set]
  split
  · next e3 => subst e3; exact hy
  · next e3 =>
    simp only [List.length_set] at h2
    exact (hr i h1 h2).grown hgr fun g eg e4 => hd j i hj' h1 e3 g e4 eg

theorem c_markIntSS (v : Value) (xss : List (List Int)) (k : Int) (B : Nat) (F : Nat → Prop) (w : World) (h : OwnR w B F v xss) (hk : 0 ≤ k ∧ k ≤ 1125899906842624) (ht : totR xss ≤ 1125899906842624) :
    Calls Try.prog 46 #[v, .int .i64 k] w fun e w' => e = .returned (.int .i64 (k + totR xss)) ∧ OwnR w' B F v (marksR k xss) ∧ KeptOff F w w' := by
  have hle := h.le
  obtain ⟨ad, cap, rfl, -⟩ := h.rows.out
  go_enter Try.func46, Try.ntmps46
  go_wp2
  go_loopw [1, 5] (fun q i wr => ∃ j : Nat, j ≤ xss.length ∧ i = .int .i64 j ∧ q = .int .i64 (k + (totR (xss.take j) : Int)) ∧ OwnR wr B F (.slice ad xss.length cap) (markedR k xss j) ∧ KeptOff F w wr) (fun _ i _ => xss.length - (intOf i).toNat)
  case atStart => exact ⟨0, Nat.zero_le _, rfl, by simp [totR], by simpa [markedR, marksR] using h, KeptOff.refl _ _⟩
  case round =>
    obtain ⟨j, hj, rfl, rfl, hown, hko⟩ := hrel
    have htj := totR_take_le xss j
    by_cases hlt : j < xss.length
    · obtain ⟨b, off, a', cap', rfl, hb, hcell, hi, hset⟩ := hown.row j (by rw [markedR_len _ _ _ hj]; exact hlt)
      rw [markedR_get k xss j hlt] at hcell hi hset
      replace hset := Lib.hid hset
      go_wp2_with fail
      refine (c_markIntS _ xss[j] _ B _ hi (by omega)).mono ?_
      rintro e w1 ⟨rfl, hm, hgr⟩
      obtain ⟨hown1, hk1⟩ := hset.out w1 _ hgr hm
      rw [markedR_set k xss j hlt] at hown1
      have hT := Lib.hid (totR_take_succ xss j hlt)
      clear hgr
      go_wp2
      go_roundw
      case rel => exact ⟨j + 1, by omega, by go_num, by rw [hT.out]; congr 1; omega, hown1, hko.trans hk1⟩
      case measure => simp [intOf]; omega
    · obtain rfl : j = xss.length := by omega
      go_wp2
      go_ret
      exact ⟨by simp, by simpa [markedR] using hown, hko⟩


/-! ### the two kinds of the laws' walks: F, a list; R, a list of lists -/
/-- a list in blocks of the call's own, all in F -/
def OwnF (w : World) (B : Nat) (F : Nat → Prop) (v : Value) (xs : List Int) : Prop := OwnI w B v xs ∧ xs.length ≤ 1099511627776 ∧ ∀ g, v.ownBlock = some g → F g
theorem OwnF.rd {w : World} {B : Nat} {F : Nat → Prop} {v : Value} {xs : List Int} (h : OwnF w B F v xs) : Ints w v xs := h.1.ints
theorem OwnF.tot {w : World} {B : Nat} {F : Nat → Prop} {v : Value} {xs : List Int} (h : OwnF w B F v xs) : xs.length ≤ 1099511627776 := h.2.1
theorem OwnF.below {w w' : World} {B : Nat} {F : Nat → Prop} {v : Value} {xs : List Int} (h : OwnF w B F v xs) (hb : Below w.heap.size w w') : OwnF w' B F v xs := ⟨h.1.below hb, h.2⟩
theorem OwnF.off {w w' : World} {B : Nat} {F G : Nat → Prop} {v : Value} {xs : List Int} (h : OwnF w B F v xs) (hk : KeptOff G w w') (hd : ∀ g, F g → ¬ G g) : OwnF w' B F v xs := ⟨h.1.off hk fun g e => hd g (h.2.2 g e), h.2⟩
theorem OwnF.mono {w : World} {B B' : Nat} {F : Nat → Prop} {v : Value} {xs : List Int} (h : OwnF w B F v xs) (hB : B' ≤ B) : OwnF w B' F v xs := ⟨h.1.mono hB, h.2⟩
theorem OwnI.toF {w : World} {B : Nat} {v : Value} {xs : List Int} (h : OwnI w B v xs) : OwnF w B (fun k => B ≤ k ∧ k < w.heap.size) v xs := ⟨h, h.le, OwnS.lt h⟩
theorem c_toF (v : Value) (xs : List Int) (w : World) (h : Ints w v xs) (hs : xs.length ≤ 1048576) :
    Calls Try.prog 17 #[v] w fun e w' => ∃ v', e = .returned v' ∧ OwnF w' w.heap.size (fun k => w.heap.size ≤ k ∧ k < w'.heap.size) v' xs ∧ Below w.heap.size w w' :=
  (c_toIntS v xs w h (by omega)).mono fun _ _ ⟨v', h1, h2, h3⟩ => ⟨v', h1, h2.toF, h3⟩
theorem c_eqF_same (v u : Value) (xs : List Int) (w : World) (h : Ints w v xs) (g : Ints w u xs) :
    Calls Try.prog 19 #[v, u] w fun e w' => e = .returned (.bool true) ∧ Below w.heap.size w w' := c_eqIntS_same v u xs w h g
theorem c_markF (v : Value) (xs : List Int) (k : Int) (B : Nat) (F : Nat → Prop) (w : World) (h : OwnF w B F v xs) (hk : 0 ≤ k ∧ k ≤ 1125899906842624) (_ : xs.length ≤ 1099511627776) :
    Calls Try.prog 22 #[v, .int .i64 k] w fun e w' => e = .returned (.int .i64 (k + xs.length)) ∧ OwnF w' B F v (marks k xs.length) ∧ KeptOff F w w' :=
  (c_markIntS v xs k B w h.1 (by omega)).mono fun e w' ⟨h1, h2, h3⟩ => ⟨h1, ⟨h2, by rw [marks_len]; exact h.2.1, h.2.2⟩, keptOff_grown h3 h.2.2⟩
theorem c_heldF (v : Value) (n : Nat) (k : Int) (w : World) (h : Ints w v (marks k n)) (hk : 0 ≤ k ∧ k ≤ 1125899906842624) (hn : n ≤ 1099511627776) :
    Calls Try.prog 23 #[v, .int .i64 k] w fun e w' => e = .returned (.int .i64 (k + n)) ∧ w = w' := c_heldIntS v n k w h (by omega) hn

/-- lists of lists in blocks of the call's own, all in F, not too many numbers -/
def OwnQ (w : World) (B : Nat) (F : Nat → Prop) (v : Value) (xss : List (List Int)) : Prop := OwnR w B F v xss ∧ xss.length + totR xss ≤ 1099511627776
theorem OwnQ.rd {w : World} {B : Nat} {F : Nat → Prop} {v : Value} {xss : List (List Int)} (h : OwnQ w B F v xss) : Rows2 w v xss := h.1.rows
theorem OwnQ.tot {w : World} {B : Nat} {F : Nat → Prop} {v : Value} {xss : List (List Int)} (h : OwnQ w B F v xss) : xss.length + totR xss ≤ 1099511627776 := h.2
theorem OwnQ.below {w w' : World} {B : Nat} {F : Nat → Prop} {v : Value} {xss : List (List Int)} (h : OwnQ w B F v xss) (hb : Below w.heap.size w w') : OwnQ w' B F v xss := ⟨h.1.below hb, h.2⟩
theorem OwnQ.off {w w' : World} {B : Nat} {F G : Nat → Prop} {v : Value} {xss : List (List Int)} (h : OwnQ w B F v xss) (hk : KeptOff G w w') (hd : ∀ g, F g → ¬ G g) : OwnQ w' B F v xss := ⟨h.1.off hk hd, h.2⟩
theorem OwnQ.mono {w : World} {B B' : Nat} {F : Nat → Prop} {v : Value} {xss : List (List Int)} (h : OwnQ w B F v xss) (hB : B' ≤ B) : OwnQ w B' F v xss := ⟨h.1.mono hB fun _ h => h, h.2⟩
theorem totR_small' (xss : List (List Int)) (h : xss.length ≤ 1048576) (h2 : ∀ r ∈ xss, r.length ≤ 524288) : xss.length + totR xss ≤ 1099511627776 := by
  have : ∀ l : List (List Int), (∀ r ∈ l, r.length ≤ 524288) → totR l ≤ l.length * 524288 := by
    intro l hl
    induction l with
    | nil => simp [totR]
    | cons r rs ih =>
      have a := hl r (by simp)
      have b := ih fun x hx => hl x (by simp [hx])
      simp only [totR, List.map_cons, List.sum_cons, List.length_cons] at b ⊢
      omega
  have := this xss h2
  omega
theorem c_toR (v : Value) (xss : List (List Int)) (w : World) (h : Rows2 w v xss) (hs : Small2 xss) :
    Calls Try.prog 43 #[v] w fun e w' => ∃ v', e = .returned v' ∧ OwnQ w' w.heap.size (fun k => w.heap.size ≤ k ∧ k < w'.heap.size) v' xss ∧ Below w.heap.size w w' :=
  (c_toIntSS v xss w h hs).mono fun _ _ ⟨v', h1, h2, h3⟩ => ⟨v', h1, ⟨h2, hs.2.2⟩, h3⟩
theorem c_eqR_same (v u : Value) (xss : List (List Int)) (w : World) (h : Rows2 w v xss) (g : Rows2 w u xss) :
    Calls Try.prog 45 #[v, u] w fun e w' => e = .returned (.bool true) ∧ Below w.heap.size w w' := c_eqIntSS_same v u xss w h g
theorem c_markR (v : Value) (xss : List (List Int)) (k : Int) (B : Nat) (F : Nat → Prop) (w : World) (h : OwnQ w B F v xss) (hk : 0 ≤ k ∧ k ≤ 1125899906842624) (_ : xss.length + totR xss ≤ 1099511627776) :
    Calls Try.prog 46 #[v, .int .i64 k] w fun e w' => e = .returned (.int .i64 (k + totR xss)) ∧ OwnQ w' B F v (marksR k xss) ∧ KeptOff F w w' :=
  (c_markIntSS v xss k B F w h.1 hk (by omega)).mono fun _ _ ⟨h1, h2, h3⟩ => ⟨h1, ⟨h2, by rw [marksR_len, marksR_tot]; exact h.2⟩, h3⟩

end Go.Proofs.Ytmdpblckjeochaa
