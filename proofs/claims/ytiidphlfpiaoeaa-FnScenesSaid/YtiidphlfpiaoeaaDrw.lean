/- A region that draws its order, whose operations read, make memory, or draw numbers with a cursor; conditions: none. -/
import Derived.Test.YtiidphlfpiaoeaaFreeD
import Derived.Test.YtiidphlfpiaoeaaCur
import Derived.Test.YtiidphlfpiaoeaaAppG
namespace Go.Proofs.Ytiidphlfpiaoeaa
open Go.RowKit

/-- what is known of a value, whatever the cursor's block holds -/
structure DK (cg : Nat) where
  P : Value → World → Prop
  on : ∀ v w w', P v w → KeptOff (fun k => k = cg) w w' → P v w'
def dkT (cg : Nat) : DK cg := ⟨fun _ _ => True, fun _ _ _ _ _ => trivial⟩
def dkV (cg : Nat) (x : Value) : DK cg := ⟨fun v _ => v = x, fun _ _ _ h _ => h⟩
def dkN (cg : Nat) (p : Int → Prop) : DK cg := ⟨fun v _ => ∃ x, v = .int .i64 x ∧ p x, fun _ _ _ h _ => h⟩
def dkB (cg : Nat) : DK cg := ⟨fun v _ => ∃ b, v = .bool b, fun _ _ _ h _ => h⟩
theorem own_off {cg lo : Nat} (hl : cg < lo) {w w' : World} {v : Value} {E : TypeId} {us : List Value} (h : OwnS w lo E v us) (hk : KeptOff (fun k => k = cg) w w') : OwnS w' lo E v us :=
  h.off hk fun g e f => by have := (OwnS.lt h g e).1; omega
/-- a list of the region's own -/
def dkL (cg lo : Nat) (hl : cg < lo) (q : List Int → Prop) : DK cg := ⟨fun v w => ∃ xs, q xs ∧ OwnI w lo v xs, fun _ _ _ ⟨xs, h1, h2⟩ hk => ⟨xs, h1, own_off hl h2 hk⟩⟩
/-- a list of one number -/
def dkO (cg lo : Nat) (hl : cg < lo) (p : Int → Prop) : DK cg :=
  ⟨fun v w => ∃ b x, v = .slice (some ⟨b, 0, none⟩) 1 1 ∧ lo ≤ b ∧ w.cell? ⟨b, 0, none⟩ = some (.int .i64 x) ∧ p x, fun _ w w' ⟨b, x, h1, h2, h3, h4⟩ hk => ⟨b, x, h1, h2, by
    have hb := World.block_lt_of_cell? w _ h3
    rw [← h3]
    unfold World.cell?
    rw [hk.block b hb (by omega)], h4⟩⟩
/-- a list of lists of one list that is the region's own -/
def dkR (cg lo : Nat) (hl : cg < lo) (q : List Int → Prop) : DK cg :=
  ⟨fun v w => ∃ b xs r, v = .slice (some ⟨b, 0, none⟩) 1 1 ∧ lo ≤ b ∧ w.cell? ⟨b, 0, none⟩ = some r ∧ OwnI w lo r xs ∧ q xs, fun _ w w' ⟨b, xs, r, h1, h2, h3, h4, h5⟩ hk => ⟨b, xs, r, h1, h2, by
    have hb := World.block_lt_of_cell? w _ h3
    rw [← h3]
    unfold World.cell?
    rw [hk.block b hb (by omega)], own_off hl h4 hk, h5⟩⟩

/-- the operation has left a value -/
def StoodC (cg Kn : Nat) (rs : List (DK cg)) (a : Act) (sl : List (Option Nat)) (u : Nat → Value) (i : Nat) (o : Oper) (w : World) (Q : Exit → Act → World → Prop) : Exit → Act → World → Prop
  | .normal, a', w' => ∃ v, a' = (putAll a sl u).put o.dst v ∧ KeptOff (fun k => k = cg) w w' ∧ CurR w' cg (Kn + 2) ∧ (rs.getD i (dkT cg)).P v w'
  | e, a', w' => Q e a' w'

theorem wp_region_cur {P : Program} {ops : Array Oper} {Q : Exit → Act → World → Prop} {a : Act} {w0 : World} {id : Nat} (hm : P.follows .mixedOrders = true)
    (sl : List (Option Nat)) (t : Nat) (hs : slotsB ops sl = true) (hord : orderB ops = true) (htl : tailsB ops t = true) (ht : t ≤ ops.size) (tl : List Oper) (htl2 : ops.toList.drop t = tl)
    (cg K : Nat) (hc : CurR w0 cg K) (hK : K + 2 * t < 1073740000) (rs : List (DK cg))
    (hstep : ∀ i o, ops[i]? = some o → i < t → ∀ u w Kn, KeptOff (fun k => k = cg) w0 w → CurR w cg Kn → Kn < 1073740000 → (∀ j ∈ deps o, (rs.getD j (dkT cg)).P (u j) w) → wpList P ops (StoodC cg Kn rs a sl u i o w Q) [o] (putAll a sl u) w)
    (hend : ∀ u w, KeptOff (fun k => k = cg) w0 w → CurR w cg (K + 2 * t) → (∀ j, j < t → (rs.getD j (dkT cg)).P (u j) w) → wpList P ops Q tl (putAll a sl u) w) :
    (Code.region id ops true).wp P Q a w0 := by
  subst htl2
  have hd := (Below.refl w0.heap.size w0).drew
  have hd0 : KeptOff (fun k => k = cg) w0 w0.drew := (kept0 hd).mono fun _ f => f.elim
  refine wp_region_acc hm sl t hs hord htl ht (fun n w => KeptOff (fun k => k = cg) w0 w ∧ CurR w cg (K + 2 * n)) (KeptOff (fun k => k = cg)) (fun i => (rs.getD i (dkT cg)).P) (fun i v w w' h hk => (rs.getD i (dkT cg)).on v w w' h hk)
    ⟨hd0, hc.below hd⟩ (fun i o ho hi n u w hn hI hR => ?_) (fun u w hI hR => hend u w hI.1 hI.2 hR)
  have h := hstep i o ho hi u w (K + 2 * n) hI.1 hI.2 (by omega) hR
  simp only [wpList] at h ⊢
  have hnext : ∀ a' w', StoodC cg (K + 2 * n) rs a sl u i o w Q .normal a' w' → StoodA (fun n w => KeptOff (fun k => k = cg) w0 w ∧ CurR w cg (K + 2 * n)) (KeptOff (fun k => k = cg)) (fun i => (rs.getD i (dkT cg)).P) a sl u n i o w Q .normal a' w' := by
    rintro a' w' ⟨v, h1, h2, h3, h4⟩
    exact ⟨v, h1, ⟨hI.1.trans h2, h3⟩, h2, h4⟩
  split at h
  · next hw =>
    rw [if_pos hw]
    refine h.imp (wp_swap hnext (fun _ _ _ h => h) fun ⟨x, y, h⟩ => ⟨x, y, h⟩) fun ⟨h1, h2⟩ => ⟨h1, ?_⟩
    obtain ⟨x, y, h2⟩ := h2
    exact ⟨x, y, h2⟩
  · next hw =>
    rw [if_neg hw]
    exact hnext _ _ h
theorem kcell {w w' : World} {cg b j : Nat} {v : Value} (hk : KeptOff (fun k => k = cg) w w') (h : w.cell? ⟨b, j, none⟩ = some v) (hb : b ≠ cg) : w'.cell? ⟨b, j, none⟩ = some v := by
  have hl := World.block_lt_of_cell? w _ h
  rw [← h]
  unfold World.cell?
  rw [hk.block b hl hb]
theorem kblk {w w' : World} {cg b : Nat} {o : Obj} (hk : KeptOff (fun k => k = cg) w w') (h : w.heap[b]? = some o) (hb : b ≠ cg) : w'.heap[b]? = some o :=
  (hk.block b (Array.getElem?_eq_some_iff.1 h).1 hb).trans h
theorem kalloc {w : World} {F : Nat → Prop} (c : Obj) : KeptOff F w (w.alloc c) := (kept0 ((Below.refl w.heap.size w).alloc (Nat.le_refl _) c)).mono fun _ f => f.elim
/-- out = append(out, n), the new number in a block of its own -/
theorem wp_append_intH {ops : Array Oper} {rest : List Oper} {o : Oper} {a : Act} {Q : Exit → Act → World → Prop} (w : World) (hgd : o.guard = none) (s x : Operand)
    (ho : o.op = .call { callee := .builtin .append, args := #[s, x], argTypes := #[23, 23] }) (B : Nat) (v : Value) (xs : List Int) (hs : a.eval s = v) (hown : OwnI w B v xs)
    (n : Int) {g : Nat} (hx : a.eval x = .slice (some ⟨g, 0, none⟩) 1 1) (hg : w.cell? ⟨g, 0, none⟩ = some (.int .i64 n)) (hlen : xs.length < 1099511627776) (hB : B ≤ w.heap.size)
    (h : ∀ v' w', OwnI w' B v' (xs ++ [n]) → w.grownBy w' v.ownBlock → (v'.ownBlock = v.ownBlock ∨ v'.ownBlock = some w.heap.size) → wpList Try.prog ops Q rest (a.put o.dst v') w') :
    wpList Try.prog ops Q (o :: rest) a w := by
  refine wp_append_intsG w hgd s x ho B v xs hs hown _ [n] hx ⟨some ⟨g, 0, none⟩, 1, by simp, by simp, fun j u hu => ?_⟩ (by simp) (by simp; omega) hB fun v' w' h1 h2 _ h4 => h v' w' h1 h2 h4
  have : j = 0 := by have := (List.getElem?_eq_some_iff.1 hu).1; simpa using this
  subst this
  simp at hu
  subst hu
  exact ⟨g, 0, rfl, World.block_lt_of_cell? w _ hg, hg⟩
theorem Sl.off {w w' : World} {v : Value} {us : List Value} {G : Nat → Prop} (h : Sl w v us) (hk : KeptOff G w w') (hG : ∀ g, v.ownBlock = some g → ¬ G g) : Sl w' v us := by
  obtain ⟨a, cap, rfl, hl, hc⟩ := h
  refine ⟨a, cap, rfl, hl, fun j u hu => ?_⟩
  obtain ⟨b, off, rfl, hb, hcell⟩ := hc j u hu
  refine ⟨b, off, rfl, Nat.lt_of_lt_of_le hb hk.size, ?_⟩
  rw [← hcell]
  unfold World.cell?
  rw [hk.block b hb (hG b rfl)]
/-- read, from blocks from lo on -/
def IntsB (w : World) (lo : Nat) (v : Value) (xs : List Int) : Prop := Ints w v xs ∧ ∀ g, v.ownBlock = some g → lo ≤ g
def RowsB (w : World) (lo : Nat) (v : Value) (xss : List (List Int)) : Prop :=
  ∃ vs : List Value, Sl w v vs ∧ vs.length = xss.length ∧ (∀ i (h : i < vs.length) (h' : i < xss.length), Ints w vs[i] xss[i]) ∧ (∀ g, v.ownBlock = some g → lo ≤ g) ∧ ∀ i (_ : i < vs.length) g, vs[i].ownBlock = some g → lo ≤ g
theorem IntsB.off {w w' : World} {lo : Nat} {v : Value} {xs : List Int} {G : Nat → Prop} (h : IntsB w lo v xs) (hk : KeptOff G w w') (hG : ∀ k, G k → k < lo) : IntsB w' lo v xs :=
  ⟨Sl.off h.1 hk fun g e f => by have := h.2 g e; have := hG g f; omega, h.2⟩
theorem RowsB.off {w w' : World} {lo : Nat} {v : Value} {xss : List (List Int)} {G : Nat → Prop} (h : RowsB w lo v xss) (hk : KeptOff G w w') (hG : ∀ k, G k → k < lo) : RowsB w' lo v xss := by
  obtain ⟨vs, hs, hn, hr, hv, hvs⟩ := h
  exact ⟨vs, hs.off hk fun g e f => by have := hv g e; have := hG g f; omega, hn, fun i h1 h2 => Sl.off (hr i h1 h2) hk fun g e f => by have := hvs i h1 g e; have := hG g f; omega, hv, hvs⟩
theorem RowsB.rows {w : World} {lo : Nat} {v : Value} {xss : List (List Int)} (h : RowsB w lo v xss) : Rows2 w v xss := by
  obtain ⟨vs, hs, hn, hr, -⟩ := h
  exact ⟨vs, hs, hn, hr⟩
theorem OwnI.b {w : World} {B : Nat} {v : Value} {xs : List Int} (h : OwnI w B v xs) : IntsB w B v xs := ⟨h.ints, fun g e => (OwnS.lt h g e).1⟩
theorem OwnR.b {w : World} {B : Nat} {F : Nat → Prop} {v : Value} {xss : List (List Int)} (h : OwnR w B F v xss) : RowsB w B v xss := by
  obtain ⟨vs, hs, hn, hr, -⟩ := h
  exact ⟨vs, hs.sl, hn, fun i h1 h2 => (hr i h1 h2).ints, fun g e => (hs.lt g e).1, fun i h1 g e => (OwnS.lt (hr i h1 (by omega)) g e).1⟩
/-- a list of the region's own, or a part of it -/
def dkI (cg lo : Nat) (hl : cg < lo) (q : List Int → Prop) : DK cg :=
  ⟨fun v w => ∃ xs, q xs ∧ IntsB w lo v xs, fun _ _ _ ⟨xs, h1, h2⟩ hk => ⟨xs, h1, h2.off hk fun k e => by omega⟩⟩
theorem own_form {w : World} {B : Nat} {E : TypeId} {v : Value} {us : List Value} (h : OwnS w B E v us) (h0 : 0 < us.length) : ∃ g cap, v = .slice (some ⟨g, 0, none⟩) us.length cap ∧ B ≤ g := by
  rcases h.1.2 with ⟨hv, hn⟩ | ⟨g, cap, cur, hv, hg, -⟩
  · omega
  · exact ⟨g, cap, hv, hg⟩
theorem OwnI.form {w : World} {B : Nat} {v : Value} {xs : List Int} (h : OwnI w B v xs) (h0 : 0 < xs.length) : ∃ g cap, v = .slice (some ⟨g, 0, none⟩) xs.length cap ∧ B ≤ g := by
  obtain ⟨g, cap, e, hg⟩ := own_form h (by simpa using h0)
  exact ⟨g, cap, by simpa using e, hg⟩
theorem OwnR.form {w : World} {B : Nat} {F : Nat → Prop} {v : Value} {xss : List (List Int)} (h : OwnR w B F v xss) (h0 : 0 < xss.length) : ∃ g cap, v = .slice (some ⟨g, 0, none⟩) xss.length cap ∧ B ≤ g := by
  obtain ⟨vs, hs, hn, -⟩ := h
  obtain ⟨g, cap, e, hg⟩ := own_form hs (by omega)
  exact ⟨g, cap, by rw [e, hn], hg⟩
/-- an element of a list of lists that is the call's own: it can be stored -/
theorem OwnR.cellAt {w : World} {B g n cap : Nat} {F : Nat → Prop} {xss : List (List Int)} (h : OwnR w B F (.slice (some ⟨g, 0, none⟩) n cap) xss) (j : Nat) (hj : j < xss.length) : ∃ u, w.cell? ⟨g, j, none⟩ = some u ∧ w.frozen? ⟨g, j, none⟩ = false := by
  obtain ⟨vs, hs, hn, -⟩ := h
  have := OwnS.cell hs j (by omega)
  exact ⟨_, this.1, this.2⟩
/-- one row is another -/
theorem rowsB_set {w : World} {B lo g n cap : Nat} {F : Nat → Prop} {xss : List (List Int)} (h : OwnR w B F (.slice (some ⟨g, 0, none⟩) n cap) xss) (hB : lo ≤ B) (j : Nat) (u : Value) (ys : List Int) (hu : IntsB w lo u ys) (hne : ∀ k, u.ownBlock = some k → k ≠ g) :
    RowsB (w.setCell ⟨g, j, none⟩ u) lo (.slice (some ⟨g, 0, none⟩) n cap) (xss.set j ys) := by
  obtain ⟨vs, hs, hn, hr, -⟩ := h
  have hk := keptOff_set w g j u
  refine ⟨vs.set j u, (hs.set j u).1.sl, by simp [hn], fun i h1 h2 => ?_, fun q e => Nat.le_trans hB (hs.lt q e).1, fun i h1 q e => ?_⟩
  · simp only [List.length_set] at h1 h2
    simp only [List.getElem_set]
    split
    · exact Sl.off hu.1 hk fun k e f => hne k e f
    · exact ((hr i h1 h2).off hk fun k e e2 => OwnS.apart (hr i h1 h2) hs (by decide) e (by rw [e2]; rfl)).ints
  · simp only [List.length_set] at h1
    simp only [List.getElem_set] at e
    split at e
    · exact hu.2 q e
    · exact Nat.le_trans hB (OwnS.lt (hr i h1 (by omega)) q e).1
/-- the rows behind the first -/
theorem rowsB_tail {w : World} {lo b off n cap : Nat} {xss : List (List Int)} (h : RowsB w lo (.slice (some ⟨b, off, none⟩) n cap) xss) (hn : 0 < n) : RowsB w lo (.slice (some ⟨b, off + 1, none⟩) (n - 1) (cap - 1)) xss.tail := by
  obtain ⟨vs, ⟨a, c, e, hl, hc⟩, hn2, hr, hv, hvs⟩ := h
  simp only [Value.slice.injEq] at e
  obtain ⟨rfl, rfl, rfl⟩ := e
  refine ⟨vs.tail, ⟨_, _, by rw [List.length_tail], by simp; omega, fun j u hu => ?_⟩, by simp [hn2], fun i h1 h2 => ?_, fun g e => hv g e, fun i h1 g e => ?_⟩
  · rw [List.getElem?_tail] at hu
    obtain ⟨b', off', e, hb, hcell⟩ := hc (j + 1) u hu
    cases e
    exact ⟨b, off + 1, rfl, hb, by rw [show off + 1 + j = off + (j + 1) by omega]; exact hcell⟩
  · simp only [List.length_tail] at h1 h2
    simp only [List.getElem_tail]
    exact hr _ _ _
  · simp only [List.length_tail] at h1
    simp only [List.getElem_tail] at e
    exact hvs _ _ g e
theorem intsB_take {w : World} {lo b off n cap : Nat} {xs : List Int} (h : IntsB w lo (.slice (some ⟨b, off, none⟩) n cap) xs) (m : Nat) (hm : m ≤ xs.length) : IntsB w lo (.slice (some ⟨b, off, none⟩) m cap) (xs.take m) := by
  refine ⟨?_, h.2⟩
  obtain ⟨a, c, e, hl, hc⟩ := h.1
  simp only [Value.slice.injEq, List.length_map] at e
  obtain ⟨rfl, rfl, rfl⟩ := e
  have hl2 : xs.length ≤ cap := by simpa using hl.1
  have hl3 : (List.map (Value.int .i64) (xs.take m)).length = m := by simp; omega
  refine ⟨_, _, by rw [hl3], by rw [hl3]; omega, fun j u hu => ?_⟩
  rw [List.map_take, List.getElem?_take] at hu
  split at hu
  · exact hc j u hu
  · cases hu
/-- four cells are stored -/
theorem stored4 {w : World} {b : Nat} {z0 z1 z2 z3 : Value} {t : TypeId} (p : w.heap[b]? = some (.cells #[z0, z1, z2, z3] t (0, 0))) (v0 v1 v2 v3 : Value) :
    ((((((w.setCell ⟨b, 0, none⟩ v0).setCell ⟨b, 1, none⟩ v1).setCell ⟨b, 2, none⟩ v2).setCell ⟨b, 3, none⟩ v3).cell? ⟨b, 0, none⟩ = some v0 ∧ ((((w.setCell ⟨b, 0, none⟩ v0).setCell ⟨b, 1, none⟩ v1).setCell ⟨b, 2, none⟩ v2).setCell ⟨b, 3, none⟩ v3).cell? ⟨b, 1, none⟩ = some v1) ∧
      (((((w.setCell ⟨b, 0, none⟩ v0).setCell ⟨b, 1, none⟩ v1).setCell ⟨b, 2, none⟩ v2).setCell ⟨b, 3, none⟩ v3).cell? ⟨b, 2, none⟩ = some v2 ∧ ((((w.setCell ⟨b, 0, none⟩ v0).setCell ⟨b, 1, none⟩ v1).setCell ⟨b, 2, none⟩ v2).setCell ⟨b, 3, none⟩ v3).cell? ⟨b, 3, none⟩ = some v3)) ∧
      KeptOff (fun k => k = b) w ((((w.setCell ⟨b, 0, none⟩ v0).setCell ⟨b, 1, none⟩ v1).setCell ⟨b, 2, none⟩ v2).setCell ⟨b, 3, none⟩ v3) := by
  have q := blk_set (j := 3) (v := v3) (blk_set (j := 2) (v := v2) (blk_set (j := 1) (v := v1) (blk_set (j := 0) (v := v0) p)))
  refine ⟨⟨⟨?_, ?_⟩, ?_, ?_⟩, ((((keptOff_set w b 0 v0).trans (keptOff_set _ b 1 v1)).trans (keptOff_set _ b 2 v2)).trans (keptOff_set _ b 3 v3))⟩ <;> simp only [World.cell?, q] <;> rfl
end Go.Proofs.Ytiidphlfpiaoeaa
