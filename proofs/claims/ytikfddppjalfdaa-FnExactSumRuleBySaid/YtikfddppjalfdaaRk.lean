/- A region that draws its order and makes lists: what each operation leaves, by kinds; conditions: none. -/
import Derived.Test.YtikfddppjalfdaaFree
import Derived.Test.YtikfddppjalfdaaOwn
namespace Go.Proofs.Ytikfddppjalfdaa
open Go.RowKit

/-- the blocks of an interval -/
def InI (x : Nat × Nat) : Nat → Prop := fun k => x.1 ≤ k ∧ k < x.2
/-- what an operation leaves: kind 0 the value v · 1 a list xs of the call's own · 2 a slice whose elements are the values of operations js · 3 an aggregate of these · 4 a pointer to a new variable o -/
structure RK where
  k : Nat
  v : Value
  xs : List Int
  js : List Nat
  o : Obj
  ys : List (List Int)
def noObj : Obj := .cells #[] 0
def rkV (v : Value) : RK := ⟨0, v, [], [], noObj, []⟩
def rkL (xs : List Int) : RK := ⟨1, .slice none 0 0, xs, [], noObj, []⟩
def rkS (js : List Nat) : RK := ⟨2, .slice none 0 0, [], js, noObj, []⟩
def rkA (js : List Nat) : RK := ⟨3, .slice none 0 0, [], js, noObj, []⟩
def rkN (o : Obj) : RK := ⟨4, .slice none 0 0, [], [], o, []⟩
/-- the value of another operation -/
def rkE (j : Nat) : RK := ⟨6, .slice none 0 0, [], [j], noObj, []⟩
def rkR (xss : List (List Int)) : RK := ⟨7, .slice none 0 0, [], [], noObj, xss⟩
def rkT : RK := ⟨5, .slice none 0 0, [], [], noObj, []⟩
def rkH (B : Nat) (r : RK) (v : Value) (x : Nat × Nat) (u : Nat → Value) (w : World) : Prop :=
  match r.k with
  | 0 => v = r.v
  | 1 => OwnF w B (InI x) v r.xs
  | 2 => OwnS w B 22 v (r.js.map u) ∧ ∀ g, v.ownBlock = some g → InI x g
  | 3 => v = .agg (r.js.map u).toArray
  | 4 => v = .pointer (some ⟨x.1, 0, none⟩) ∧ w.heap[x.1]? = some r.o ∧ x.1 < x.2
  | 6 => [v] = r.js.map u
  | 7 => OwnR w B (InI x) v r.ys
  | _ => True
theorem rkH_below {B : Nat} {r : RK} {v : Value} {x : Nat × Nat} {u : Nat → Value} {w w' : World} (h : rkH B r v x u w) (hb : Below w.heap.size w w') : rkH B r v x u w' := by
  unfold rkH at h ⊢
  split at h
  · exact h
  · exact h.below hb
  · exact ⟨h.1.below hb (Nat.le_refl _), h.2⟩
  · exact h
  · exact ⟨h.1, blk_later hb h.2.1, h.2.2⟩
  · exact h
  · exact OwnR.below h hb
  · trivial
theorem rkH_off {B : Nat} {r : RK} {v : Value} {x : Nat × Nat} {u : Nat → Value} {w w' : World} {F : Nat → Prop} (h : rkH B r v x u w) (hk : KeptOff F w w') (hF : ∀ k, InI x k → ¬ F k) : rkH B r v x u w' := by
  unfold rkH at h ⊢
  split at h
  · exact h
  · exact h.off hk hF
  · exact ⟨h.1.off hk fun g e => hF g (h.2 g e), h.2⟩
  · exact h
  · exact ⟨h.1, (hk.block _ (Array.getElem?_eq_some_iff.1 h.2.1).1 (hF _ ⟨Nat.le_refl _, h.2.2⟩)).trans h.2.1, h.2.2⟩
  · exact h
  · exact OwnR.off h hk hF
  · trivial
theorem rkH_congr {B : Nat} {r : RK} {v : Value} {x : Nat × Nat} {u u' : Nat → Value} {w : World} (h : rkH B r v x u w) (hu : ∀ j ∈ r.js, u j = u' j) : rkH B r v x u' w := by
  have e : r.js.map u = r.js.map u' := List.map_congr_left hu
  unfold rkH at h ⊢
  rw [← e]
  exact h
def rkOk (ops : Array Oper) (js : List (List Nat)) : Bool := (List.range ops.size).all fun i => (js.getD i []).all fun j => (depsAt ops i).contains j

/-- nothing that was there has been written -/
theorem kept0 {w w' : World} (h : Below w.heap.size w w') : KeptOff (fun _ => False) w w' := ⟨h.os, h.tape, h.output, h.size, fun k hk _ => h.block k hk⟩

theorem wp_region_rk {P : Program} {ops : Array Oper} {Q : Exit → Act → World → Prop} {a : Act} {w0 : World} {id : Nat} (hm : P.follows .mixedOrders = true)
    (sl : List (Option Nat)) (last : Nat) (hs : slotsB ops sl = true) (hlast : lastB ops last = true) (hord : orderB ops = true) (ol : Oper) (hol : ops[last]? = some ol)
    (B : Nat) (rs : List RK) (js : List (List Nat)) (hjs : js = rs.map (·.js)) (hok : rkOk ops js = true) (hn : rs.length ≤ ops.size)
    (hstep : ∀ i o, ops[i]? = some o → i ≠ last → ∀ u g w, Below w0.heap.size w0 w → (∀ j ∈ deps o, rkH B (rs.getD j rkT) (u j) (g j) u w) →
      wpList P ops (Stood3 (fun _ _ => False) a sl (fun i v x u _ w => rkH B (rs.getD i rkT) v x u w) u g i o w Q) [o] (putAll a sl u) w)
    (hend : ∀ u g w, Below w0.heap.size w0 w → (∀ j, j < ops.size → j ≠ last → rkH B (rs.getD j rkT) (u j) (g j) u w) → Apart w0.heap.size w.heap.size (fun j => j < ops.size ∧ j ≠ last) g → wpList P ops Q [ol] (putAll a sl u) w) :
    (Code.region id ops true).wp P Q a w0 := by
  have kb : ∀ {F : Nat → Prop} {a b : World}, KeptOff F a b → (∀ k, ¬ F k) → Below a.heap.size a b := fun h hf => h.below (fun k hk => absurd hk (hf k)) (Nat.le_refl _)
  refine wp_region_free3 hm sl last hs hlast hord ol hol (fun _ _ => False) (fun i v x u _ w => rkH B (rs.getD i rkT) v x u w)
    (fun i j v x u g w w' _ h hk => rkH_below h (kb hk fun _ h => h)) (fun i v x u u' g g' w he h => rkH_congr h fun j hj => ?_) (fun i o ho hi u g w hb hd _ => ?_) (fun u g w hb hR hA => hend u g w (kb hb fun _ ⟨_, _, h⟩ => h) hR hA)
  · refine (he j ?_).1
    by_cases hi : i < rs.length
    · have : rs.getD i rkT = rs[i] := by simp [List.getD, hi]
      rw [this] at hj
      simp only [rkOk, List.all_eq_true, List.mem_range, List.contains_iff_mem] at hok
      refine hok i (by omega) j ?_
      rw [hjs]
      simpa [List.getD, hi] using hj
    · have : rs.getD i rkT = rkT := by simp [List.getD, Nat.le_of_not_lt hi]
      rw [this] at hj
      cases hj
  · exact hstep i o ho hi u g w (kb hb fun _ ⟨_, _, _, h⟩ => h) hd

/-- .. whose last two operations stand behind all others, the last one writing slot d2 -/
theorem wp_region_rkt {P : Program} {ops : Array Oper} {Q : Exit → Act → World → Prop} {a : Act} {w0 : World} {id : Nat} (hm : P.follows .mixedOrders = true)
    (sl : List (Option Nat)) (l1 l2 : Nat) (hs : slotsB ops sl = true) (hlast : tailB ops l1 l2 = true) (hord : orderB ops = true) (o1 o2 : Oper) (ho1 : ops[l1]? = some o1) (ho2 : ops[l2]? = some o2) (d2 : Nat) (hd2 : o2.dst = some d2)
    (B : Nat) (rs : List RK) (js : List (List Nat)) (hjs : js = rs.map (·.js)) (hok : rkOk ops js = true) (hn : rs.length ≤ ops.size)
    (hstep : ∀ i o, ops[i]? = some o → i ≠ l1 → i ≠ l2 → ∀ u g w, Below w0.heap.size w0 w → u l2 = a.tmps.getD d2 undef → (∀ j ∈ deps o, rkH B (rs.getD j rkT) (u j) (g j) u w) →
      wpList P ops (Stood3 (fun _ _ => False) a sl (fun i v x u _ w => rkH B (rs.getD i rkT) v x u w) u g i o w Q) [o] (putAll a sl u) w)
    (hend : ∀ u g w, Below w0.heap.size w0 w → u l2 = a.tmps.getD d2 undef → (∀ j, j < ops.size → j ≠ l1 → j ≠ l2 → rkH B (rs.getD j rkT) (u j) (g j) u w) → Apart w0.heap.size w.heap.size (fun j => j < ops.size ∧ j ≠ l1 ∧ j ≠ l2) g → wpList P ops Q [o1, o2] (putAll a sl u) w) :
    (Code.region id ops true).wp P Q a w0 := by
  refine wp_region_tail hm sl l1 l2 hs hlast hord o1 o2 ho1 ho2 d2 hd2 (fun i v x u _ w => rkH B (rs.getD i rkT) v x u w) (fun i v x u g w w' h hb => rkH_below h hb) (fun i v x u u' g g' w he h => rkH_congr h fun j hj => (he j ?_).1) hstep hend
  by_cases hi : i < rs.length
  · have : rs.getD i rkT = rs[i] := by simp [List.getD, hi]
    rw [this] at hj
    simp only [rkOk, List.all_eq_true, List.mem_range, List.contains_iff_mem] at hok
    refine hok i (by omega) j ?_
    rw [hjs]
    simpa [List.getD, hi] using hj
  · have : rs.getD i rkT = rkT := by simp [List.getD, Nat.le_of_not_lt hi]
    rw [this] at hj
    cases hj
/-- a list out of numbers that has just been laid -/
theorem own_nums (w : World) (B : Nat) (xs : List Int) (cs : Array Value) (n : Nat) (hcs : cs.toList = xs.map (Value.int .i64)) (hn : xs.length = n) (hB : B ≤ w.heap.size) (hl : xs.length ≤ 1000) : OwnF (w.alloc (.cells cs 3)) B (InI (w.heap.size, (w.alloc (.cells cs 3)).heap.size)) (.slice (some ⟨w.heap.size, 0, none⟩) n n) xs := by
  subst hn
  exact ⟨own_lit w B xs cs hcs hB (by omega), by omega, fun g h => by simp [Value.ownBlock] at h; subst h; simp [InI]⟩
/-- a list out of two numbers that has just been laid -/
theorem own_two (w : World) (B : Nat) (a b : Int) (hB : B ≤ w.heap.size) : OwnF (w.alloc (.cells #[.int .i64 a, .int .i64 b] 3)) B (InI (w.heap.size, (w.alloc (.cells #[.int .i64 a, .int .i64 b] 3)).heap.size)) (.slice (some ⟨w.heap.size, 0, none⟩) 2 2) [a, b] :=
  ⟨own_lit w B [a, b] #[.int .i64 a, .int .i64 b] rfl hB (by simp), by simp, fun g h => by simp [Value.ownBlock] at h; subst h; simp [InI]⟩
/-- rows that have just been laid -/
theorem own_rowsI (w : World) (B : Nat) (cs : Array Value) (us : List Value) (n : Nat) (hcs : cs.toList = us) (hn : us.length = n) (hB : B ≤ w.heap.size) (hl : us.length ≤ 1099511627776) :
    OwnS (w.alloc (.cells cs 22)) B 22 (.slice (some ⟨w.heap.size, 0, none⟩) n n) us ∧ ∀ g, (Value.slice (some ⟨w.heap.size, 0, none⟩) n n).ownBlock = some g → InI (w.heap.size, (w.alloc (.cells cs 22)).heap.size) g := by
  subst hn
  have hsz : cs.size = us.length := by rw [← Array.length_toList, hcs]
  have := World.ownsRow_lit (e := 22) (size := 1) w cs us.length hB (by unfold maxLen; omega) (by omega)
  rw [hcs] at this
  exact ⟨⟨this, hl⟩, fun g h => by simp [Value.ownBlock] at h; subst h; simp [InI]⟩

theorem Apart.pair {lo hi : Nat} {L : Nat → Prop} {g : Nat → Nat × Nat} (h : Apart lo hi L g) (js : List Nat) (hn : js.Nodup) (hL : ∀ j ∈ js, L j) : List.Pairwise (fun a b : Nat × Nat => a.2 ≤ b.1 ∨ b.2 ≤ a.1) (js.map g) := by
  rw [List.pairwise_map]
  unfold List.Nodup at hn
  exact List.Pairwise.imp_of_mem (fun ha hb hne => h.two _ _ (hL _ ha) (hL _ hb) hne) hn
theorem Apart.inAll {lo hi : Nat} {L : Nat → Prop} {g : Nat → Nat × Nat} (h : Apart lo hi L g) (js : List Nat) (hL : ∀ j ∈ js, L j) : ∀ x ∈ js.map g, ∀ k, InI x k → lo ≤ k ∧ k < hi := by
  intro x hx k hk
  obtain ⟨j, hj, rfl⟩ := List.mem_map.1 hx
  have := h.inn j (hL j hj)
  unfold InI at hk
  omega
/-- three cells are stored -/
theorem stored3 {w : World} {b : Nat} {z0 z1 z2 : Value} {t : TypeId} (p : w.heap[b]? = some (.cells #[z0, z1, z2] t (0, 0))) (v0 v1 v2 : Value) :
    ((((w.setCell ⟨b, 0, none⟩ v0).setCell ⟨b, 1, none⟩ v1).setCell ⟨b, 2, none⟩ v2).cell? ⟨b, 0, none⟩ = some v0 ∧ (((w.setCell ⟨b, 0, none⟩ v0).setCell ⟨b, 1, none⟩ v1).setCell ⟨b, 2, none⟩ v2).cell? ⟨b, 1, none⟩ = some v1 ∧
      (((w.setCell ⟨b, 0, none⟩ v0).setCell ⟨b, 1, none⟩ v1).setCell ⟨b, 2, none⟩ v2).cell? ⟨b, 2, none⟩ = some v2) ∧ KeptOff (fun k => k = b) w (((w.setCell ⟨b, 0, none⟩ v0).setCell ⟨b, 1, none⟩ v1).setCell ⟨b, 2, none⟩ v2) := by
  refine ⟨(blk3 (v1 := v0) (v2 := v1) (v3 := v2) (blk_set (blk_set (blk_set p)))).1, ?_⟩
  exact ((keptOff_set w b 0 v0).trans (keptOff_set _ b 1 v1)).trans (keptOff_set _ b 2 v2)

/-- a part of a list -/
theorem sub_ints {w : World} {b off n' cap i n : Nat} {xs : List Int} (h : Ints w (.slice (some ⟨b, off, none⟩) n' cap) xs) (hn : i + n ≤ xs.length) : Ints w (.slice (some ⟨b, off + i, none⟩) n (cap - i)) ((xs.drop i).take n) := by
  obtain ⟨a, c, e, hl, hc⟩ := h
  cases e
  have e1 : ((xs.drop i).take n).length = n := by simp; omega
  simp only [List.length_map] at hl
  refine ⟨some ⟨b, off + i, none⟩, cap - i, by rw [List.length_map, e1], by rw [List.length_map, e1]; omega, fun j u hj => ?_⟩
  have hjn : j < n := by have := (List.getElem?_eq_some_iff.1 hj).1; rwa [List.length_map, e1] at this
  obtain ⟨b', off', e2, hlt, hcell⟩ := hc (i + j) u (by
    rw [← hj]
    simp only [List.getElem?_map, List.getElem?_take, List.getElem?_drop, hjn, if_true])
  cases e2
  exact ⟨b, off + i, rfl, hlt, by rw [Nat.add_assoc]; exact hcell⟩
/-- a block read as a list -/
theorem blk_ints {w : World} {b : Nat} {cs : Array Value} {xs : List Int} {t : TypeId} (h : w.heap[b]? = some (.cells cs t (0, 0))) (hcs : cs.toList = xs.map (Value.int .i64)) (hl : xs.length ≤ 1000000) : Ints w (.slice (some ⟨b, 0, none⟩) xs.length xs.length) xs := by
  refine ⟨some ⟨b, 0, none⟩, xs.length, by simp, by simp; omega, fun j u hj => ⟨b, 0, rfl, (Array.getElem?_eq_some_iff.1 h).1, ?_⟩⟩
  simp only [World.cell?, h, Nat.zero_add]
  rw [← hcs] at hj
  simpa using hj

end Go.Proofs.Ytikfddppjalfdaa
