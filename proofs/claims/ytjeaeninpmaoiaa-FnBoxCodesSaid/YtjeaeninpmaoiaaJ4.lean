/- A region that draws its order and makes lists: what each operation leaves, by kinds; conditions: none. -/
import Derived.Test.YtjeaeninpmaoiaaJ3
import Derived.Test.YtjeaeninpmaoiaaJ1
import Derived.Maps.AppendAt
import Derived.Test.YtjeaeninpmaoiaaJ2
namespace Go.Proofs.Ytjeaeninpmaoiaa
open Go.RowKit

/-- the blocks of an interval -/
def InI (x : Nat × Nat) : Nat → Prop := fun k => x.1 ≤ k ∧ k < x.2
/-- what an operation leaves: kind 0 the value v · 1 a list xs of the call's own · 2 a slice whose elements are the values of operations js · 3 an aggregate of these · 4 a pointer to a new variable o -/
structure RK where
  k : Nat
  v : Value
  xs : List Int
  js : List Nat
  o : Obj
  ys : List (List Int)
def noObj : Obj := .cells #[] 0
def rkV (v : Value) : RK := ⟨0, v, [], [], noObj, []⟩
def rkL (xs : List Int) : RK := ⟨1, .slice none 0 0, xs, [], noObj, []⟩
def rkS (js : List Nat) : RK := ⟨2, .slice none 0 0, [], js, noObj, []⟩
def rkA (js : List Nat) : RK := ⟨3, .slice none 0 0, [], js, noObj, []⟩
def rkN (o : Obj) : RK := ⟨4, .slice none 0 0, [], [], o, []⟩
/-- the value of another operation -/
def rkE (j : Nat) : RK := ⟨6, .slice none 0 0, [], [j], noObj, []⟩
def rkR (xss : List (List Int)) : RK := ⟨7, .slice none 0 0, [], [], noObj, xss⟩
def rkT : RK := ⟨5, .slice none 0 0, [], [], noObj, []⟩
def rkH (B : Nat) (r : RK) (v : Value) (x : Nat × Nat) (u : Nat → Value) (w : World) : Prop :=
  match r.k with
  | 0 => v = r.v
  | 1 => OwnF w B (InI x) v r.xs
  | 2 => OwnS w B 26 v (r.js.map u) ∧ ∀ g, v.ownBlock = some g → InI x g
  | 3 => v = .agg (r.js.map u).toArray
  | 4 => v = .pointer (some ⟨x.1, 0, none⟩) ∧ w.heap[x.1]? = some r.o ∧ x.1 < x.2
  | 6 => [v] = r.js.map u
  | 7 => OwnR w B (InI x) v r.ys
  | _ => True
theorem rkH_below {B : Nat} {r : RK} {v : Value} {x : Nat × Nat} {u : Nat → Value} {w w' : World} (h : rkH B r v x u w) (hb : Below w.heap.size w w') : rkH B r v x u w' := by
  unfold rkH at h ⊢
  split at h
  · exact h
  · exact h.below hb
  · exact ⟨h.1.below hb (Nat.le_refl _), h.2⟩
  · exact h
  · exact ⟨h.1, blk_later hb h.2.1, h.2.2⟩
  · exact h
  · exact OwnR.below h hb
  · trivial
theorem rkH_off {B : Nat} {r : RK} {v : Value} {x : Nat × Nat} {u : Nat → Value} {w w' : World} {F : Nat → Prop} (h : rkH B r v x u w) (hk : KeptOff F w w') (hF : ∀ k, InI x k → ¬ F k) : rkH B r v x u w' := by
  unfold rkH at h ⊢
  split at h
  · exact h
  · exact h.off hk hF
  · exact ⟨h.1.off hk fun g e => hF g (h.2 g e), h.2⟩
  · exact h
  · exact ⟨h.1, (hk.block _ (Array.getElem?_eq_some_iff.1 h.2.1).1 (hF _ ⟨Nat.le_refl _, h.2.2⟩)).trans h.2.1, h.2.2⟩
  · exact h
  · exact OwnR.off h hk hF
  · trivial
theorem rkH_congr {B : Nat} {r : RK} {v : Value} {x : Nat × Nat} {u u' : Nat → Value} {w : World} (h : rkH B r v x u w) (hu : ∀ j ∈ r.js, u j = u' j) : rkH B r v x u' w := by
  have e : r.js.map u = r.js.map u' := List.map_congr_left hu
  unfold rkH at h ⊢
  rw [← e]
  exact h
def rkOk (ops : Array Oper) (js : List (List Nat)) : Bool := (List.range ops.size).all fun i => (js.getD i []).all fun j => (depsAt ops i).contains j

/-- nothing that was there has been written -/
theorem kept0 {w w' : World} (h : Below w.heap.size w w') : KeptOff (fun _ => False) w w' := ⟨h.os, h.tape, h.output, h.size, fun k hk _ => h.block k hk⟩

theorem wp_region_rk {P : Program} {ops : Array Oper} {Q : Exit → Act → World → Prop} {a : Act} {w0 : World} {id : Nat} (hm : P.follows .mixedOrders = true)
    (sl : List (Option Nat)) (last : Nat) (hs : slotsB ops sl = true) (hlast : lastB ops last = true) (hord : orderB ops = true) (ol : Oper) (hol : ops[last]? = some ol)
    (B : Nat) (rs : List RK) (js : List (List Nat)) (hjs : js = rs.map (·.js)) (hok : rkOk ops js = true) (hn : rs.length ≤ ops.size)
    (hstep : ∀ i o, ops[i]? = some o → i ≠ last → ∀ u g w, Below w0.heap.size w0 w → (∀ j ∈ deps o, rkH B (rs.getD j rkT) (u j) (g j) u w) →
      wpList P ops (Stood3 (fun _ _ => False) a sl (fun i v x u _ w => rkH B (rs.getD i rkT) v x u w) u g i o w Q) [o] (putAll a sl u) w)
    (hend : ∀ u g w, Below w0.heap.size w0 w → (∀ j, j < ops.size → j ≠ last → rkH B (rs.getD j rkT) (u j) (g j) u w) → Apart w0.heap.size w.heap.size (fun j => j < ops.size ∧ j ≠ last) g → wpList P ops Q [ol] (putAll a sl u) w) :
    (Code.region id ops true).wp P Q a w0 := by
  have kb : ∀ {F : Nat → Prop} {a b : World}, KeptOff F a b → (∀ k, ¬ F k) → Below a.heap.size a b := fun h hf => h.below (fun k hk => absurd hk (hf k)) (Nat.le_refl _)
  refine wp_region_free3 hm sl last hs hlast hord ol hol (fun _ _ => False) (fun i v x u _ w => rkH B (rs.getD i rkT) v x u w)
    (fun i j v x u g w w' _ h hk => rkH_below h (kb hk fun _ h => h)) (fun i v x u u' g g' w he h => rkH_congr h fun j hj => ?_) (fun i o ho hi u g w hb hd _ => ?_) (fun u g w hb hR hA => hend u g w (kb hb fun _ ⟨_, _, h⟩ => h) hR hA)
  · refine (he j ?_).1
    by_cases hi : i < rs.length
    · have : rs.getD i rkT = rs[i] := by simp [List.getD, hi]
      rw [this] at hj
      simp only [rkOk, List.all_eq_true, List.mem_range, List.contains_iff_mem] at hok
      refine hok i (by omega) j ?_
      rw [hjs]
      simpa [List.getD, hi] using hj
    · have : rs.getD i rkT = rkT := by simp [List.getD, Nat.le_of_not_lt hi]
      rw [this] at hj
      cases hj
  · exact hstep i o ho hi u g w (kb hb fun _ ⟨_, _, _, h⟩ => h) hd

/-- .. whose last two operations stand behind all others, the last one writing slot d2 -/
theorem wp_region_rkt {P : Program} {ops : Array Oper} {Q : Exit → Act → World → Prop} {a : Act} {w0 : World} {id : Nat} (hm : P.follows .mixedOrders = true)
    (sl : List (Option Nat)) (l1 l2 : Nat) (hs : slotsB ops sl = true) (hlast : tailB ops l1 l2 = true) (hord : orderB ops = true) (o1 o2 : Oper) (ho1 : ops[l1]? = some o1) (ho2 : ops[l2]? = some o2) (d2 : Nat) (hd2 : o2.dst = some d2)
    (B : Nat) (rs : List RK) (js : List (List Nat)) (hjs : js = rs.map (·.js)) (hok : rkOk ops js = true) (hn : rs.length ≤ ops.size)
    (hstep : ∀ i o, ops[i]? = some o → i ≠ l1 → i ≠ l2 → ∀ u g w, Below w0.heap.size w0 w → u l2 = a.tmps.getD d2 undef → (∀ j ∈ deps o, rkH B (rs.getD j rkT) (u j) (g j) u w) →
      wpList P ops (Stood3 (fun _ _ => False) a sl (fun i v x u _ w => rkH B (rs.getD i rkT) v x u w) u g i o w Q) [o] (putAll a sl u) w)
    (hend : ∀ u g w, Below w0.heap.size w0 w → u l2 = a.tmps.getD d2 undef → (∀ j, j < ops.size → j ≠ l1 → j ≠ l2 → rkH B (rs.getD j rkT) (u j) (g j) u w) → Apart w0.heap.size w.heap.size (fun j => j < ops.size ∧ j ≠ l1 ∧ j ≠ l2) g → wpList P ops Q [o1, o2] (putAll a sl u) w) :
    (Code.region id ops true).wp P Q a w0 := by
  refine wp_region_tail hm sl l1 l2 hs hlast hord o1 o2 ho1 ho2 d2 hd2 (fun i v x u _ w => rkH B (rs.getD i rkT) v x u w) (fun i v x u g w w' h hb => rkH_below h hb) (fun i v x u u' g g' w he h => rkH_congr h fun j hj => (he j ?_).1) hstep hend
  by_cases hi : i < rs.length
  · have : rs.getD i rkT = rs[i] := by simp [List.getD, hi]
    rw [this] at hj
    simp only [rkOk, List.all_eq_true, List.mem_range, List.contains_iff_mem] at hok
    refine hok i (by omega) j ?_
    rw [hjs]
    simpa [List.getD, hi] using hj
  · have : rs.getD i rkT = rkT := by simp [List.getD, Nat.le_of_not_lt hi]
    rw [this] at hj
    cases hj
/-- a list out of numbers that has just been laid -/
theorem own_nums (w : World) (B : Nat) (xs : List Int) (cs : Array Value) (n : Nat) (hcs : cs.toList = xs.map (Value.int .i64)) (hn : xs.length = n) (hB : B ≤ w.heap.size) (hl : xs.length ≤ 1000) : OwnF (w.alloc (.cells cs 3)) B (InI (w.heap.size, (w.alloc (.cells cs 3)).heap.size)) (.slice (some ⟨w.heap.size, 0, none⟩) n n) xs := by
  subst hn
  exact ⟨own_lit w B xs cs hcs hB (by omega), by omega, fun g h => by simp [Value.ownBlock] at h; subst h; simp [InI]⟩
/-- a list out of two numbers that has just been laid -/
theorem own_two (w : World) (B : Nat) (a b : Int) (hB : B ≤ w.heap.size) : OwnF (w.alloc (.cells #[.int .i64 a, .int .i64 b] 3)) B (InI (w.heap.size, (w.alloc (.cells #[.int .i64 a, .int .i64 b] 3)).heap.size)) (.slice (some ⟨w.heap.size, 0, none⟩) 2 2) [a, b] :=
  ⟨own_lit w B [a, b] #[.int .i64 a, .int .i64 b] rfl hB (by simp), by simp, fun g h => by simp [Value.ownBlock] at h; subst h; simp [InI]⟩
/-- rows that have just been laid -/
theorem own_rowsI (w : World) (B : Nat) (cs : Array Value) (us : List Value) (n : Nat) (hcs : cs.toList = us) (hn : us.length = n) (hB : B ≤ w.heap.size) (hl : us.length ≤ 1099511627776) :
    OwnS (w.alloc (.cells cs 26)) B 26 (.slice (some ⟨w.heap.size, 0, none⟩) n n) us ∧ ∀ g, (Value.slice (some ⟨w.heap.size, 0, none⟩) n n).ownBlock = some g → InI (w.heap.size, (w.alloc (.cells cs 26)).heap.size) g := by
  subst hn
  have hsz : cs.size = us.length := by rw [← Array.length_toList, hcs]
  have := World.ownsRow_lit (e := 26) (size := 1) w cs us.length hB (by unfold maxLen; omega) (by omega)
  rw [hcs] at this
  exact ⟨⟨this, hl⟩, fun g h => by simp [Value.ownBlock] at h; subst h; simp [InI]⟩

theorem Apart.pair {lo hi : Nat} {L : Nat → Prop} {g : Nat → Nat × Nat} (h : Apart lo hi L g) (js : List Nat) (hn : js.Nodup) (hL : ∀ j ∈ js, L j) : List.Pairwise (fun a b : Nat × Nat => a.2 ≤ b.1 ∨ b.2 ≤ a.1) (js.map g) := by
  rw [List.pairwise_map]
  unfold List.Nodup at hn
  exact List.Pairwise.imp_of_mem (fun ha hb hne => h.two _ _ (hL _ ha) (hL _ hb) hne) hn
theorem Apart.inAll {lo hi : Nat} {L : Nat → Prop} {g : Nat → Nat × Nat} (h : Apart lo hi L g) (js : List Nat) (hL : ∀ j ∈ js, L j) : ∀ x ∈ js.map g, ∀ k, InI x k → lo ≤ k ∧ k < hi := by
  intro x hx k hk
  obtain ⟨j, hj, rfl⟩ := List.mem_map.1 hx
  have := h.inn j (hL j hj)
  unfold InI at hk
  omega
/-- three cells are stored -/
theorem stored3 {w : World} {b : Nat} {z0 z1 z2 : Value} {t : TypeId} (p : w.heap[b]? = some (.cells #[z0, z1, z2] t (0, 0))) (v0 v1 v2 : Value) :
    ((((w.setCell ⟨b, 0, none⟩ v0).setCell ⟨b, 1, none⟩ v1).setCell ⟨b, 2, none⟩ v2).cell? ⟨b, 0, none⟩ = some v0 ∧ (((w.setCell ⟨b, 0, none⟩ v0).setCell ⟨b, 1, none⟩ v1).setCell ⟨b, 2, none⟩ v2).cell? ⟨b, 1, none⟩ = some v1 ∧
      (((w.setCell ⟨b, 0, none⟩ v0).setCell ⟨b, 1, none⟩ v1).setCell ⟨b, 2, none⟩ v2).cell? ⟨b, 2, none⟩ = some v2) ∧ KeptOff (fun k => k = b) w (((w.setCell ⟨b, 0, none⟩ v0).setCell ⟨b, 1, none⟩ v1).setCell ⟨b, 2, none⟩ v2) := by
  refine ⟨(blk3 (v1 := v0) (v2 := v1) (v3 := v2) (blk_set (blk_set (blk_set p)))).1, ?_⟩
  exact ((keptOff_set w b 0 v0).trans (keptOff_set _ b 1 v1)).trans (keptOff_set _ b 2 v2)

/-- a part of a list -/
theorem sub_ints {w : World} {b off n' cap i n : Nat} {xs : List Int} (h : Ints w (.slice (some ⟨b, off, none⟩) n' cap) xs) (hn : i + n ≤ xs.length) : Ints w (.slice (some ⟨b, off + i, none⟩) n (cap - i)) ((xs.drop i).take n) := by
  obtain ⟨a, c, e, hl, hc⟩ := h
  cases e
  have e1 : ((xs.drop i).take n).length = n := by simp; omega
  simp only [List.length_map] at hl
  refine ⟨some ⟨b, off + i, none⟩, cap - i, by rw [List.length_map, e1], by rw [List.length_map, e1]; omega, fun j u hj => ?_⟩
  have hjn : j < n := by have := (List.getElem?_eq_some_iff.1 hj).1; rwa [List.length_map, e1] at this
  obtain ⟨b', off', e2, hlt, hcell⟩ := hc (i + j) u (by
    rw [← hj]
    simp only [List.getElem?_map, List.getElem?_take, List.getElem?_drop, hjn, if_true])
  cases e2
  exact ⟨b, off + i, rfl, hlt, by rw [Nat.add_assoc]; exact hcell⟩
/-- a block read as a list -/
theorem blk_ints {w : World} {b : Nat} {cs : Array Value} {xs : List Int} {t : TypeId} (h : w.heap[b]? = some (.cells cs t (0, 0))) (hcs : cs.toList = xs.map (Value.int .i64)) (hl : xs.length ≤ 1000000) : Ints w (.slice (some ⟨b, 0, none⟩) xs.length xs.length) xs := by
  refine ⟨some ⟨b, 0, none⟩, xs.length, by simp, by simp; omega, fun j u hj => ⟨b, 0, rfl, (Array.getElem?_eq_some_iff.1 h).1, ?_⟩⟩
  simp only [World.cell?, h, Nat.zero_add]
  rw [← hcs] at hj
  simpa using hj

end Go.Proofs.Ytjeaeninpmaoiaa
/- Appends, with the blocks that the new slice lies in: the old ones or new ones; conditions: none. -/
namespace Go.Proofs.Ytjeaeninpmaoiaa
open Go.RowKit

theorem sl_news {w : World} {ad : Option Addr} {n cap : Nat} {us : List Value} (h : Sl w (.slice ad n cap) us) (hne : 0 < us.length) : ∃ b off, ad = some ⟨b, off, none⟩ ∧ n = us.length ∧ ∀ j u, us[j]? = some u → w.cell? ((⟨b, off, none⟩ : Addr).add j) = some u := by
  obtain ⟨a, c, e, hl, hc⟩ := h
  cases e
  obtain ⟨b, off, rfl, -, -⟩ := hc 0 _ (List.getElem?_eq_getElem hne)
  refine ⟨b, off, rfl, rfl, fun j u hu => ?_⟩
  obtain ⟨b', off', e, -, hcell⟩ := hc j u hu
  cases e
  rw [Addr.add_lit]
  exact hcell

/-- out = append(out, list...), list not empty -/
theorem wp_append_intsG {ops : Array Oper} {rest : List Oper} {o : Oper} {a : Act} {Q : Exit → Act → World → Prop} (w : World) (hgd : o.guard = none) (s x : Operand)
    (ho : o.op = .call { callee := .builtin .append, args := #[s, x], argTypes := #[26, 26] }) (B : Nat) (v : Value) (xs : List Int) (hs : a.eval s = v) (hown : OwnI w B v xs)
    (u : Value) (ys : List Int) (hx : a.eval x = u) (hy : Ints w u ys) (hne : 0 < ys.length) (hlen : xs.length + ys.length ≤ 1099511627776) (hB : B ≤ w.heap.size)
    (h : ∀ v' w', OwnI w' B v' (xs ++ ys) → w.grownBy w' v.ownBlock → v' ≠ .slice none 0 0 → (v'.ownBlock = v.ownBlock ∨ v'.ownBlock = some w.heap.size) → wpList Try.prog ops Q rest (a.put o.dst v') w') :
    wpList Try.prog ops Q (o :: rest) a w := by
  obtain ⟨ad, cap, rfl, hl, -⟩ := hy.out
  obtain ⟨b, off, rfl, hn, hnews⟩ := sl_news hy (by simpa using hne)
  obtain ⟨i0, hi, hz0, hz1, hz2⟩ := info_parts info_int
  refine wpList_append_own_at _ hgd s x 26 ho B 3 i0 (.int .i64 0) 1 8 Try.underlying26 hi hz0 hz1 hz2 rfl (by decide) v xs.length (xs.map (Value.int .i64)) hs (by simpa using hown.1) ⟨b, off, none⟩ ys.length cap (ys.map (Value.int .i64)) hx (by simp) hnews ?_
    (by unfold maxLen; omega) (by omega) (by omega) fun v' w' h1 h2 h3 h4 => ?_
  · intro u hu
    obtain ⟨y, -, rfl⟩ := List.mem_map.1 hu
    rfl
  · refine h v' w' ⟨by simpa using h1, by simp; omega⟩ h2 (fun e => ?_) h4
    have := (h3.1 e).2
    omega

/-- out = append(out, n): the world in which the one new cell has been laid -/
theorem wp_append_intB {ops : Array Oper} {rest : List Oper} {o : Oper} {a : Act} {Q : Exit → Act → World → Prop} (w : World) (n : Int) (hgd : o.guard = none) (s x : Operand)
    (ho : o.op = .call { callee := .builtin .append, args := #[s, x], argTypes := #[26, 26] }) (B : Nat) (v : Value) (xs : List Int) (hs : a.eval s = v) (hown : OwnI w B v xs)
    {g : Nat} (hx : a.eval x = .slice (some ⟨g, 0, none⟩) 1 1) (hg : g = w.heap.size) (hlen : xs.length < 1099511627776) (hB : B ≤ w.heap.size)
    (h : ∀ v' w', OwnI w' B v' (xs ++ [n]) → w.grownBy w' v.ownBlock → v' ≠ .slice none 0 0 → (v'.ownBlock = v.ownBlock ∨ v'.ownBlock = some (w.heap.size + 1)) → wpList Try.prog ops Q rest (a.put o.dst v') w') :
    wpList Try.prog ops Q (o :: rest) a (w.alloc (.cells #[.int .i64 n] 3)) := by
  subst hg
  refine wp_append_intsG _ hgd s x ho B v xs hs (hown.below ((Below.refl _ _).alloc (Nat.le_refl _) _)) _ [n] hx ?_ (by simp) (by simp; omega) (by simp; omega) fun v' w' h1 h2 h3 h4 => h v' w' h1 (grown_trans (World.grownBy_alloc w _ none) h2) h3 (by simpa using h4)
  refine ⟨some ⟨w.heap.size, 0, none⟩, 1, by simp, by simp, fun j u hu => ⟨w.heap.size, 0, rfl, by simp, ?_⟩⟩
  have : j = 0 := by have := (List.getElem?_eq_some_iff.1 hu).1; simpa using this
  subst this
  simp at hu
  subst hu
  rw [World.cell?_alloc_at _ _ _ _ rfl]
  rfl

/-- out = append(out, rows...), rows not empty, of blocks of their own -/
theorem wp_append_rowsG {ops : Array Oper} {rest : List Oper} {o : Oper} {a : Act} {Q : Exit → Act → World → Prop} (w : World) (hgd : o.guard = none) (s x : Operand)
    (ho : o.op = .call { callee := .builtin .append, args := #[s, x], argTypes := #[32, 32] }) (B : Nat) (F F2 : Nat → Prop) (v : Value) (xss : List (List Int)) (hs : a.eval s = v) (hown : OwnR w B F v xss)
    (u : Value) (vs2 : List Value) (yss : List (List Int)) (hx : a.eval x = u) (hsl : Sl w u vs2) (hne : 0 < vs2.length) (hn2 : vs2.length = yss.length) (hr2 : ∀ i (h : i < vs2.length) (h' : i < yss.length), OwnI w B vs2[i] yss[i])
    (hd2 : ∀ i j (_ : i < vs2.length) (_ : j < vs2.length), i ≠ j → ∀ g, vs2[i].ownBlock = some g → vs2[j].ownBlock ≠ some g) (hF2 : ∀ i (_ : i < vs2.length) g, vs2[i].ownBlock = some g → F2 g) (hdis : ∀ k, F k → ¬ F2 k)
    (hlen : xss.length + yss.length ≤ 1099511627776) (hB : B ≤ w.heap.size)
    (h : ∀ v' w', (∀ G : Nat → Prop, (∀ k, F k → G k) → (∀ k, F2 k → G k) → (∀ k, w.heap.size ≤ k → k < w'.heap.size → G k) → OwnR w' B G v' (xss ++ yss)) → w.grownBy w' v.ownBlock → v' ≠ .slice none 0 0 → wpList Try.prog ops Q rest (a.put o.dst v') w') :
    wpList Try.prog ops Q (o :: rest) a w := by
  obtain ⟨vs, hvs, hn, hrs, hdd, hf, hfs⟩ := hown
  obtain ⟨i0, hi, hz0, hz1, hz2⟩ := info_parts info_row
  obtain ⟨ad, cap, rfl, hl, -⟩ := id hsl
  obtain ⟨b, off, rfl, -, hnews⟩ := sl_news hsl hne
  refine wpList_append_own_at _ hgd s x 32 ho B 26 i0 (.slice none 0 0) 1 24 Try.underlying32 hi hz0 hz1 hz2 rfl (by decide) v vs.length vs hs hvs.1 ⟨b, off, none⟩ vs2.length cap vs2 hx (by simp) hnews ?_
    (by unfold maxLen; omega) (by omega) (by omega) fun v' w' h1 hgr h3 h4 => ?_
  · intro u hu
    obtain ⟨i, hi, rfl⟩ := List.getElem_of_mem hu
    obtain ⟨a', c', e, -, -⟩ := (hr2 i hi (by omega)).ints.out
    rw [e]; rfl
  · have kr : ∀ i (h1 : i < vs2.length) (h2 : i < yss.length), OwnI w' B vs2[i] yss[i] := fun i h1 h2 => (hr2 i h1 h2).grown hgr fun g e e' => OwnS.apart (hr2 i h1 h2) hvs (by decide) e e'
    have krs : ∀ i (h1 : i < vs.length) (h2 : i < xss.length), OwnI w' B vs[i] xss[i] := fun i h1 h2 => (hrs i h1 h2).grown hgr fun g e e' => OwnS.apart (hrs i h1 h2) hvs (by decide) e e'
    have hown2 : OwnS w' B 26 v' (vs ++ vs2) := ⟨by simpa using h1, by simp; omega⟩
    refine h v' w' (fun G hG1 hG2 hG3 => ⟨vs ++ vs2, hown2, by simp [hn, hn2], fun i h1 h2 => ?_, fun i j h1 h2 hne q e => ?_, fun q e => ?_, fun i h1 q e => ?_⟩) hgr fun e => ?_
    · simp only [List.length_append] at h1 h2
      by_cases hi : i < vs.length
      · rw [List.getElem_append_left hi, List.getElem_append_left (by omega)]; exact krs i hi (by omega)
      · rw [List.getElem_append_right (by omega), List.getElem_append_right (by omega)]
        simp only [hn]
        exact kr _ (by omega) (by omega)
    · simp only [List.length_append] at h1 h2
      by_cases hi : i < vs.length <;> by_cases hj : j < vs.length
      · rw [List.getElem_append_left hi] at e
        rw [List.getElem_append_left hj]
        exact hdd i j hi hj hne q e
      · rw [List.getElem_append_left hi] at e
        rw [List.getElem_append_right (by omega)]
        intro e2
        exact hdis q (hfs i hi q e) (hF2 _ (by omega) q e2)
      · rw [List.getElem_append_right (by omega)] at e
        rw [List.getElem_append_left hj]
        intro e2
        exact hdis q (hfs j hj q e2) (hF2 _ (by omega) q e)
      · rw [List.getElem_append_right (by omega)] at e ⊢
        exact hd2 _ _ (by omega) (by omega) (by omega) q e
    · rcases h4 with h4 | h4
      · rw [h4] at e; exact hG1 q (hf q e)
      · rw [h4] at e; cases e; exact hG3 _ (Nat.le_refl _) (hown2.lt _ h4).2
    · simp only [List.length_append] at h1
      by_cases hi : i < vs.length
      · rw [List.getElem_append_left hi] at e; exact hG1 q (hfs i hi q e)
      · rw [List.getElem_append_right (by omega)] at e; exact hG2 q (hF2 _ (by omega) q e)
    · have := (h3.1 e).2
      omega

/-- out = append(out, row), the new cell in a block of its own -/
theorem wp_append_rowG {ops : Array Oper} {rest : List Oper} {o : Oper} {a : Act} {Q : Exit → Act → World → Prop} (w : World) (hgd : o.guard = none) (s x : Operand)
    (ho : o.op = .call { callee := .builtin .append, args := #[s, x], argTypes := #[32, 32] }) (B : Nat) (F : Nat → Prop) (v : Value) (xss : List (List Int)) (hs : a.eval s = v) (hown : OwnR w B F v xss)
    (r : Value) (ys : List Int) (hr : OwnI w B r ys) (hd : ∀ g, r.ownBlock = some g → ¬ F g) {g : Nat} (hx : a.eval x = .slice (some ⟨g, 0, none⟩) 1 1) (hg : w.cell? ⟨g, 0, none⟩ = some r)
    (hlen : xss.length < 1099511627776) (hB : B ≤ w.heap.size)
    (h : ∀ v' w', (∀ G : Nat → Prop, (∀ k, F k → G k) → (∀ k, r.ownBlock = some k → G k) → (∀ k, w.heap.size ≤ k → k < w'.heap.size → G k) → OwnR w' B G v' (xss ++ [ys])) → w.grownBy w' v.ownBlock → v' ≠ .slice none 0 0 → wpList Try.prog ops Q rest (a.put o.dst v') w') :
    wpList Try.prog ops Q (o :: rest) a w := by
  refine wp_append_rowsG w hgd s x ho B F (fun k => r.ownBlock = some k) v xss hs hown _ [r] [ys] hx ⟨_, 1, rfl, by simp, fun j u hu => ?_⟩ (by simp) rfl (fun i h1 h2 => ?_) (fun i j h1 h2 hne => ?_) (fun i h1 g e => ?_) (fun k hk e => hd k e hk) (by simp; omega) hB h
  · have : j = 0 := by have := (List.getElem?_eq_some_iff.1 hu).1; simp at this; omega
    subst this
    simp at hu
    subst hu
    exact ⟨g, 0, rfl, World.block_lt_of_cell? w _ hg, hg⟩
  · simp at h1; subst h1; exact hr
  · simp at h1 h2; omega
  · simp at h1; subst h1; exact e

theorem grown_kept {w w' : World} {v : Value} (h : w.grownBy w' v.ownBlock) : KeptOff (fun k => v.ownBlock = some k) w w' := ⟨h.os, h.tape, h.output, h.size, fun k hk hf => h.block k hk fun e => hf e.symm⟩

end Go.Proofs.Ytjeaeninpmaoiaa
/- BoxCode on both sides; conditions: none. -/
namespace Go.Proofs.Ytjeaeninpmaoiaa
open Go.RowKit

theorem row_cells {w : World} {v : Value} {r : BoxD} {q : Nat} (h : Ints w v (rowB r q)) (hl : (rowB r q).length = 4) :
    ∃ bl off cap, v = .slice (some ⟨bl, off, none⟩) 4 cap ∧ bl < w.heap.size ∧ w.cell? ⟨bl, off, none⟩ = some (.int .i64 (cellB r q 0)) ∧ w.cell? ⟨bl, off + 1, none⟩ = some (.int .i64 (cellB r q 1)) ∧
      w.cell? ⟨bl, off + 2, none⟩ = some (.int .i64 (cellB r q 2)) ∧ w.cell? ⟨bl, off + 3, none⟩ = some (.int .i64 (cellB r q 3)) := by
  obtain ⟨ad, cap, rfl, -, -⟩ := h.out
  obtain ⟨bl, off, rfl, hb, c0⟩ := h.at 0 (by omega)
  obtain ⟨_, _, e1, -, c1⟩ := h.at 1 (by omega)
  cases e1
  obtain ⟨_, _, e2, -, c2⟩ := h.at 2 (by omega)
  cases e2
  obtain ⟨_, _, e3, -, c3⟩ := h.at 3 (by omega)
  cases e3
  have e : ∀ j (hj : j < (rowB r q).length), (rowB r q)[j] = cellB r q j := fun j hj => by simp [cellB, List.getD, hj]
  rw [e] at c0 c1 c2 c3
  exact ⟨bl, off, cap, by rw [hl], hb, c0, c1, c2, c3⟩

/-- the row and the two answers of entry n -/
def gA : Nat → Nat × Nat × Nat
  | 0 => (0, 0, 3) | 1 => (1, 0, 3) | 2 => (2, 0, 3) | 3 => (3, 1, 2) | 4 => (2, 0, 3) | 5 => (3, 1, 2) | 6 => (0, 0, 3) | _ => (1, 0, 3)
def gHit (n m : Nat) : Bool := (gA n).2.1 == m || (gA n).2.2 == m
def gP (r : BoxD) (n : Nat) : Nat → Int
  | 0 => 0
  | m + 1 => if gHit n m then gP r n m + cellB r (gA n).1 m else gP r n m
def gV (r : BoxD) (n : Nat) : Int := gP r n 4
def boxCodeL (r : BoxD) : List Int := if pairB r then mapR (gV r) 8 else []
theorem gP_bound {r : BoxD} {n : Nat} (h : ∀ j, 0 ≤ cellB r (gA n).1 j ∧ cellB r (gA n).1 j ≤ 1000) : ∀ m, 0 ≤ gP r n m ∧ gP r n m ≤ 1000 * m
  | 0 => by simp [gP]
  | m + 1 => by
    have h1 := gP_bound h m
    have h2 := h m
    unfold gP
    split <;> omega

set_option maxRecDepth 100000 in
set_option maxHeartbeats 40000000 in
theorem c_spec_BoxCode (v : Value) (r : BoxD) (w : World) (h : BoxR w v r) :
    Calls Try.prog 37 #[v] w fun e w' => ∃ v', e = .returned (.tuple #[v', .bool (pairB r)]) ∧ OwnI w' w.heap.size v' (boxCodeL r) ∧ Below w.heap.size w w' := by
  have h2 := h
  obtain ⟨v4, rfl, hr⟩ := id h
  obtain ⟨a4, k4, rfl, l4⟩ := hr.out
  have hA := (Below.refl w.heap.size w).alloc (Nat.le_refl _) (.cells #[.int .i64 r.x, .int .i64 r.y, .int .i64 r.w, .slice a4 r.r.length k4] 50)
  have pB : (w.alloc (.cells #[.int .i64 r.x, .int .i64 r.y, .int .i64 r.w, .slice a4 r.r.length k4] 50)).heap[w.heap.size]? = some (.cells #[.int .i64 r.x, .int .i64 r.y, .int .i64 r.w, .slice a4 r.r.length k4] 50 (0, 0)) := heap_alloc_at rfl
  generalize hbx : Obj.cells #[.int .i64 r.x, .int .i64 r.y, .int .i64 r.w, .slice a4 r.r.length k4] 50 = bx at *
  have hown0 := (by have h := own_empty (w.alloc bx) (w.heap.size + 1) (by simp); simp only [World.size_alloc] at h; exact h : OwnI ((w.alloc bx).alloc (.cells #[] 3)) (w.heap.size + 1) (.slice (some ⟨w.heap.size + 1, 0, none⟩) 0 0) [])
  have hB0 : Below (w.heap.size + 1) (w.alloc bx) ((w.alloc bx).alloc (.cells #[] 3)) := (Below.refl _ _).alloc (by simp) _
  subst hbx
  obtain ⟨⟨z0, z1, z2, z3⟩, -⟩ := blk4 ((hB0.block _ (by omega)).trans pB)
  have hA0 : Below w.heap.size w _ := hA.trans (hB0.mono (by omega))
  cases hp : pairB r
  · have hF : Hid (boxCodeL r = []) := Lib.hid (by simp [boxCodeL, hp])
    replace hp := Lib.hid hp
    go_enter Try.func37, Try.ntmps37
    go_wp2_with fail
    refine (c_l9Two _ r _ (h2.below hA0)).mono ?_
    rintro e w2 ⟨rfl, hB⟩
    rw [hp.out]
    go_wp2
    go_ret2
    exact ⟨_, rfl, by rw [hF.out]; exact (hown0.below hB).mono (by omega), hA0.trans (hB.mono (by simp; omega))⟩
  · obtain ⟨hbb, hxx, hyy, hlen⟩ := pairB_facts hp
    have hF : Hid (boxCodeL r = mapR (gV r) 8) := Lib.hid (by simp [boxCodeL, hp])
    have hcl := fun q (hq : q < 4) => boxB_row hbb (show q < r.r.length by omega)
    have hcb := fun n j => boxB_cell hbb (show (gA n).1 < r.r.length by rw [hlen]; unfold gA; split <;> decide) j
    replace hp := Lib.hid hp
    replace hcl := Lib.hid hcl
    replace hcb := Lib.hid hcb
    replace hbb := Lib.hid hbb
    replace hlen := Lib.hid hlen
    replace hxx := Lib.hid hxx
    replace hyy := Lib.hid hyy
    go_enter Try.func37, Try.ntmps37
    go_wp2_with fail
    refine (c_l9Two _ r _ (h2.below hA0)).mono ?_
    rintro e w2 ⟨rfl, hB⟩
    rw [hp.out]
    have hB2 : Below (w.heap.size + 1) (w.alloc (.cells #[.int .i64 r.x, .int .i64 r.y, .int .i64 r.w, .slice a4 r.r.length k4] 50)) w2 := hB0.trans (hB.mono (by simp))
    have hown2 := hown0.below hB
    clear hB hB0 hown0 z0 z1 z2 z3 hA0
    go_wp2_with fail
    go_loopw [4, 5] (fun v j wr => ∃ k : Nat, k ≤ 4 ∧ j = .int .i64 k ∧ OwnI wr (w.heap.size + 1) v (mapR (gV r) (2 * k)) ∧ Below (w.heap.size + 1) (w.alloc (.cells #[.int .i64 r.x, .int .i64 r.y, .int .i64 r.w, .slice a4 r.r.length k4] 50)) wr) (fun _ j _ => 4 - (intOf j).toNat)
    case atStart => exact ⟨0, Nat.zero_le _, rfl, hown2, hB2⟩
    case round =>
      clear hown2 hB2
      obtain ⟨k, hk, rfl, hown, hB⟩ := hrel
      have hk5 : k = 0 ∨ k = 1 ∨ k = 2 ∨ k = 3 ∨ k = 4 := by omega
      rcases hk5 with rfl | rfl | rfl | rfl | rfl
      · skip
        go_wp2_with fail
        go_loopw [4, 8] (fun v j wr => ∃ i : Nat, i ≤ 2 ∧ j = .int .i64 i ∧ OwnI wr (w.heap.size + 1) v (mapR (gV r) (2 * 0 + i)) ∧ Below (w.heap.size + 1) (w.alloc (.cells #[.int .i64 r.x, .int .i64 r.y, .int .i64 r.w, .slice a4 r.r.length k4] 50)) wr) (fun _ j _ => 2 - (intOf j).toNat)
        case atStart => exact ⟨0, by omega, rfl, hown, hB⟩
        case round =>
          clear hown hB
          obtain ⟨i, hi, rfl, hown3, hB3⟩ := hrel
          have hi3 : i = 0 ∨ i = 1 ∨ i = 2 := by omega
          rcases hi3 with rfl | rfl | rfl
          · skip
            obtain ⟨v0, iv, hcall⟩ := at_l2Row _ r 0 0 2 w h2 hyy.out (by decide) (by rw [hlen.out]; decide)
            rw [show 0 * 2 + 0 = 0 from rfl] at iv
            obtain ⟨bl, off, cap, rfl, hbl, c0, c1, c2, c3⟩ := row_cells iv (hcl.out 0 (by decide)).1
            have hall := hA.trans (hB3.mono (by omega))
            have hcn := hcb.out 0
            have hpn := gP_bound hcn
            rw [show (gA 0).1 = 0 from rfl] at hcn
            obtain ⟨⟨z0, z1, z2, z3⟩, -⟩ := blk4 ((hB3.block _ (by omega)).trans pB)
            replace hcn := Lib.hid hcn
            replace hpn := Lib.hid hpn
            go_wp2_with fail
            refine (hcall _ hall).mono ?_
            clear z0 z1 z2 z3
            rintro e w2 ⟨rfl, hb2⟩
            have up := (bcell (hall.trans (hb2.mono hall.size))).1
            rw [← up _ _ hbl] at c0 c1 c2 c3
            clear up
            have hown4 := hown3.below hb2
            have hB4 := hB3.trans (hb2.mono (by have := hB3.size; simp at this; omega))
            clear hown3 hB3 hb2 hall
            go_wp2_with fail
            go_loop [10, 11] (fun s j => ∃ m : Nat, m ≤ 4 ∧ j = .int .i64 m ∧ s = .int .i64 (gP r 0 m)) (fun _ j => 4 - (intOf j).toNat)
            case atStart => exact ⟨0, by omega, rfl, rfl⟩
            case round =>
              obtain ⟨m, hm, rfl, rfl⟩ := hrel
              have hm5 : m = 0 ∨ m = 1 ∨ m = 2 ∨ m = 3 ∨ m = 4 := by omega
              have hpm := hpn.out m
              have hcm := hcn.out m
              rcases hm5 with rfl | rfl | rfl | rfl | rfl
              · skip
                have hs : Hid (gP r 0 (0 + 1) = gP r 0 0 + cellB r 0 0) := Lib.hid rfl
                go_wp2
                go_round
                case rel => exact ⟨0 + 1, by omega, by go_num, by rw [hs.out]⟩
                case measure => simp [intOf]
              · skip
                have hs : Hid (gP r 0 (1 + 1) = gP r 0 1) := Lib.hid rfl
                go_wp2
                go_round
                case rel => exact ⟨1 + 1, by omega, by go_num, by rw [hs.out]⟩
                case measure => simp [intOf]
              · skip
                have hs : Hid (gP r 0 (2 + 1) = gP r 0 2) := Lib.hid rfl
                go_wp2
                go_round
                case rel => exact ⟨2 + 1, by omega, by go_num, by rw [hs.out]⟩
                case measure => simp [intOf]
              · skip
                have hs : Hid (gP r 0 (3 + 1) = gP r 0 3 + cellB r 0 3) := Lib.hid rfl
                go_wp2
                go_round
                case rel => exact ⟨3 + 1, by omega, by go_num, by rw [hs.out]⟩
                case measure => simp [intOf]
              · have hsz := hB4.size
                simp only [World.size_alloc] at hsz
                go_wp2_with (at_builtin; refine wp_append_int _ _ rfl _ _ rfl (w.heap.size + 1) _ _ rfl hown4 rfl (by first | rfl | simp) (by rw [mapR_len]; omega) (by omega) ?_; intro v' w5 hown5 _ hB5 _)
                have hB6 := hB4.trans hB5
                replace hown5 : OwnI w5 (w.heap.size + 1) v' (mapR (gV r) (2 * 0 + (0 + 1))) := by rw [show 2 * 0 + (0 + 1) = 0 + 1 from rfl, mapR_succ]; exact hown5
                go_roundw
                case rel => exact ⟨0 + 1, by omega, by go_num, hown5, hB6⟩
                case measure => simp [intOf]
          · skip
            obtain ⟨v0, iv, hcall⟩ := at_l2Row _ r 0 1 2 w h2 hyy.out (by decide) (by rw [hlen.out]; decide)
            rw [show 0 * 2 + 1 = 1 from rfl] at iv
            obtain ⟨bl, off, cap, rfl, hbl, c0, c1, c2, c3⟩ := row_cells iv (hcl.out 1 (by decide)).1
            have hall := hA.trans (hB3.mono (by omega))
            have hcn := hcb.out 1
            have hpn := gP_bound hcn
            rw [show (gA 1).1 = 1 from rfl] at hcn
            obtain ⟨⟨z0, z1, z2, z3⟩, -⟩ := blk4 ((hB3.block _ (by omega)).trans pB)
            replace hcn := Lib.hid hcn
            replace hpn := Lib.hid hpn
            go_wp2_with fail
            refine (hcall _ hall).mono ?_
            clear z0 z1 z2 z3
            rintro e w2 ⟨rfl, hb2⟩
            have up := (bcell (hall.trans (hb2.mono hall.size))).1
            rw [← up _ _ hbl] at c0 c1 c2 c3
            clear up
            have hown4 := hown3.below hb2
            have hB4 := hB3.trans (hb2.mono (by have := hB3.size; simp at this; omega))
            clear hown3 hB3 hb2 hall
            go_wp2_with fail
            go_loop [10, 11] (fun s j => ∃ m : Nat, m ≤ 4 ∧ j = .int .i64 m ∧ s = .int .i64 (gP r 1 m)) (fun _ j => 4 - (intOf j).toNat)
            case atStart => exact ⟨0, by omega, rfl, rfl⟩
            case round =>
              obtain ⟨m, hm, rfl, rfl⟩ := hrel
              have hm5 : m = 0 ∨ m = 1 ∨ m = 2 ∨ m = 3 ∨ m = 4 := by omega
              have hpm := hpn.out m
              have hcm := hcn.out m
              rcases hm5 with rfl | rfl | rfl | rfl | rfl
              · skip
                have hs : Hid (gP r 1 (0 + 1) = gP r 1 0 + cellB r 1 0) := Lib.hid rfl
                go_wp2
                go_round
                case rel => exact ⟨0 + 1, by omega, by go_num, by rw [hs.out]⟩
                case measure => simp [intOf]
              · skip
                have hs : Hid (gP r 1 (1 + 1) = gP r 1 1) := Lib.hid rfl
                go_wp2
                go_round
                case rel => exact ⟨1 + 1, by omega, by go_num, by rw [hs.out]⟩
                case measure => simp [intOf]
              · skip
                have hs : Hid (gP r 1 (2 + 1) = gP r 1 2) := Lib.hid rfl
                go_wp2
                go_round
                case rel => exact ⟨2 + 1, by omega, by go_num, by rw [hs.out]⟩
                case measure => simp [intOf]
              · skip
                have hs : Hid (gP r 1 (3 + 1) = gP r 1 3 + cellB r 1 3) := Lib.hid rfl
                go_wp2
                go_round
                case rel => exact ⟨3 + 1, by omega, by go_num, by rw [hs.out]⟩
                case measure => simp [intOf]
              · have hsz := hB4.size
                simp only [World.size_alloc] at hsz
                go_wp2_with (at_builtin; refine wp_append_int _ _ rfl _ _ rfl (w.heap.size + 1) _ _ rfl hown4 rfl (by first | rfl | simp) (by rw [mapR_len]; omega) (by omega) ?_; intro v' w5 hown5 _ hB5 _)
                have hB6 := hB4.trans hB5
                replace hown5 : OwnI w5 (w.heap.size + 1) v' (mapR (gV r) (2 * 0 + (1 + 1))) := by rw [show 2 * 0 + (1 + 1) = 1 + 1 from rfl, mapR_succ]; exact hown5
                go_roundw
                case rel => exact ⟨1 + 1, by omega, by go_num, hown5, hB6⟩
                case measure => simp [intOf]
          · go_wp2
            go_roundw
            case rel => exact ⟨0 + 1, by omega, by go_num, hown3, hB3⟩
            case measure => simp [intOf]
      · skip
        go_wp2_with fail
        go_loopw [4, 8] (fun v j wr => ∃ i : Nat, i ≤ 2 ∧ j = .int .i64 i ∧ OwnI wr (w.heap.size + 1) v (mapR (gV r) (2 * 1 + i)) ∧ Below (w.heap.size + 1) (w.alloc (.cells #[.int .i64 r.x, .int .i64 r.y, .int .i64 r.w, .slice a4 r.r.length k4] 50)) wr) (fun _ j _ => 2 - (intOf j).toNat)
        case atStart => exact ⟨0, by omega, rfl, hown, hB⟩
        case round =>
          clear hown hB
          obtain ⟨i, hi, rfl, hown3, hB3⟩ := hrel
          have hi3 : i = 0 ∨ i = 1 ∨ i = 2 := by omega
          rcases hi3 with rfl | rfl | rfl
          · skip
            obtain ⟨v0, iv, hcall⟩ := at_l2Row _ r 1 0 2 w h2 hyy.out (by decide) (by rw [hlen.out]; decide)
            rw [show 1 * 2 + 0 = 2 from rfl] at iv
            obtain ⟨bl, off, cap, rfl, hbl, c0, c1, c2, c3⟩ := row_cells iv (hcl.out 2 (by decide)).1
            have hall := hA.trans (hB3.mono (by omega))
            have hcn := hcb.out 2
            have hpn := gP_bound hcn
            rw [show (gA 2).1 = 2 from rfl] at hcn
            obtain ⟨⟨z0, z1, z2, z3⟩, -⟩ := blk4 ((hB3.block _ (by omega)).trans pB)
            replace hcn := Lib.hid hcn
            replace hpn := Lib.hid hpn
            go_wp2_with fail
            refine (hcall _ hall).mono ?_
            clear z0 z1 z2 z3
            rintro e w2 ⟨rfl, hb2⟩
            have up := (bcell (hall.trans (hb2.mono hall.size))).1
            rw [← up _ _ hbl] at c0 c1 c2 c3
            clear up
            have hown4 := hown3.below hb2
            have hB4 := hB3.trans (hb2.mono (by have := hB3.size; simp at this; omega))
            clear hown3 hB3 hb2 hall
            go_wp2_with fail
            go_loop [10, 11] (fun s j => ∃ m : Nat, m ≤ 4 ∧ j = .int .i64 m ∧ s = .int .i64 (gP r 2 m)) (fun _ j => 4 - (intOf j).toNat)
            case atStart => exact ⟨0, by omega, rfl, rfl⟩
            case round =>
              obtain ⟨m, hm, rfl, rfl⟩ := hrel
              have hm5 : m = 0 ∨ m = 1 ∨ m = 2 ∨ m = 3 ∨ m = 4 := by omega
              have hpm := hpn.out m
              have hcm := hcn.out m
              rcases hm5 with rfl | rfl | rfl | rfl | rfl
              · skip
                have hs : Hid (gP r 2 (0 + 1) = gP r 2 0 + cellB r 2 0) := Lib.hid rfl
                go_wp2
                go_round
                case rel => exact ⟨0 + 1, by omega, by go_num, by rw [hs.out]⟩
                case measure => simp [intOf]
              · skip
                have hs : Hid (gP r 2 (1 + 1) = gP r 2 1) := Lib.hid rfl
                go_wp2
                go_round
                case rel => exact ⟨1 + 1, by omega, by go_num, by rw [hs.out]⟩
                case measure => simp [intOf]
              · skip
                have hs : Hid (gP r 2 (2 + 1) = gP r 2 2) := Lib.hid rfl
                go_wp2
                go_round
                case rel => exact ⟨2 + 1, by omega, by go_num, by rw [hs.out]⟩
                case measure => simp [intOf]
              · skip
                have hs : Hid (gP r 2 (3 + 1) = gP r 2 3 + cellB r 2 3) := Lib.hid rfl
                go_wp2
                go_round
                case rel => exact ⟨3 + 1, by omega, by go_num, by rw [hs.out]⟩
                case measure => simp [intOf]
              · have hsz := hB4.size
                simp only [World.size_alloc] at hsz
                go_wp2_with (at_builtin; refine wp_append_int _ _ rfl _ _ rfl (w.heap.size + 1) _ _ rfl hown4 rfl (by first | rfl | simp) (by rw [mapR_len]; omega) (by omega) ?_; intro v' w5 hown5 _ hB5 _)
                have hB6 := hB4.trans hB5
                replace hown5 : OwnI w5 (w.heap.size + 1) v' (mapR (gV r) (2 * 1 + (0 + 1))) := by rw [show 2 * 1 + (0 + 1) = 2 + 1 from rfl, mapR_succ]; exact hown5
                go_roundw
                case rel => exact ⟨0 + 1, by omega, by go_num, hown5, hB6⟩
                case measure => simp [intOf]
          · skip
            obtain ⟨v0, iv, hcall⟩ := at_l2Row _ r 1 1 2 w h2 hyy.out (by decide) (by rw [hlen.out]; decide)
            rw [show 1 * 2 + 1 = 3 from rfl] at iv
            obtain ⟨bl, off, cap, rfl, hbl, c0, c1, c2, c3⟩ := row_cells iv (hcl.out 3 (by decide)).1
            have hall := hA.trans (hB3.mono (by omega))
            have hcn := hcb.out 3
            have hpn := gP_bound hcn
            rw [show (gA 3).1 = 3 from rfl] at hcn
            obtain ⟨⟨z0, z1, z2, z3⟩, -⟩ := blk4 ((hB3.block _ (by omega)).trans pB)
            replace hcn := Lib.hid hcn
            replace hpn := Lib.hid hpn
            go_wp2_with fail
            refine (hcall _ hall).mono ?_
            clear z0 z1 z2 z3
            rintro e w2 ⟨rfl, hb2⟩
            have up := (bcell (hall.trans (hb2.mono hall.size))).1
            rw [← up _ _ hbl] at c0 c1 c2 c3
            clear up
            have hown4 := hown3.below hb2
            have hB4 := hB3.trans (hb2.mono (by have := hB3.size; simp at this; omega))
            clear hown3 hB3 hb2 hall
            go_wp2_with fail
            go_loop [10, 11] (fun s j => ∃ m : Nat, m ≤ 4 ∧ j = .int .i64 m ∧ s = .int .i64 (gP r 3 m)) (fun _ j => 4 - (intOf j).toNat)
            case atStart => exact ⟨0, by omega, rfl, rfl⟩
            case round =>
              obtain ⟨m, hm, rfl, rfl⟩ := hrel
              have hm5 : m = 0 ∨ m = 1 ∨ m = 2 ∨ m = 3 ∨ m = 4 := by omega
              have hpm := hpn.out m
              have hcm := hcn.out m
              rcases hm5 with rfl | rfl | rfl | rfl | rfl
              · skip
                have hs : Hid (gP r 3 (0 + 1) = gP r 3 0) := Lib.hid rfl
                go_wp2
                go_round
                case rel => exact ⟨0 + 1, by omega, by go_num, by rw [hs.out]⟩
                case measure => simp [intOf]
              · skip
                have hs : Hid (gP r 3 (1 + 1) = gP r 3 1 + cellB r 3 1) := Lib.hid rfl
                go_wp2
                go_round
                case rel => exact ⟨1 + 1, by omega, by go_num, by rw [hs.out]⟩
                case measure => simp [intOf]
              · skip
                have hs : Hid (gP r 3 (2 + 1) = gP r 3 2 + cellB r 3 2) := Lib.hid rfl
                go_wp2
                go_round
                case rel => exact ⟨2 + 1, by omega, by go_num, by rw [hs.out]⟩
                case measure => simp [intOf]
              · skip
                have hs : Hid (gP r 3 (3 + 1) = gP r 3 3) := Lib.hid rfl
                go_wp2
                go_round
                case rel => exact ⟨3 + 1, by omega, by go_num, by rw [hs.out]⟩
                case measure => simp [intOf]
              · have hsz := hB4.size
                simp only [World.size_alloc] at hsz
                go_wp2_with (at_builtin; refine wp_append_int _ _ rfl _ _ rfl (w.heap.size + 1) _ _ rfl hown4 rfl (by first | rfl | simp) (by rw [mapR_len]; omega) (by omega) ?_; intro v' w5 hown5 _ hB5 _)
                have hB6 := hB4.trans hB5
                replace hown5 : OwnI w5 (w.heap.size + 1) v' (mapR (gV r) (2 * 1 + (1 + 1))) := by rw [show 2 * 1 + (1 + 1) = 3 + 1 from rfl, mapR_succ]; exact hown5
                go_roundw
                case rel => exact ⟨1 + 1, by omega, by go_num, hown5, hB6⟩
                case measure => simp [intOf]
          · go_wp2
            go_roundw
            case rel => exact ⟨1 + 1, by omega, by go_num, hown3, hB3⟩
            case measure => simp [intOf]
      · skip
        go_wp2_with fail
        go_loopw [4, 8] (fun v j wr => ∃ i : Nat, i ≤ 2 ∧ j = .int .i64 i ∧ OwnI wr (w.heap.size + 1) v (mapR (gV r) (2 * 2 + i)) ∧ Below (w.heap.size + 1) (w.alloc (.cells #[.int .i64 r.x, .int .i64 r.y, .int .i64 r.w, .slice a4 r.r.length k4] 50)) wr) (fun _ j _ => 2 - (intOf j).toNat)
        case atStart => exact ⟨0, by omega, rfl, hown, hB⟩
        case round =>
          clear hown hB
          obtain ⟨i, hi, rfl, hown3, hB3⟩ := hrel
          have hi3 : i = 0 ∨ i = 1 ∨ i = 2 := by omega
          rcases hi3 with rfl | rfl | rfl
          · skip
            obtain ⟨v0, iv, hcall⟩ := at_l2Row _ r 1 0 2 w h2 hyy.out (by decide) (by rw [hlen.out]; decide)
            rw [show 1 * 2 + 0 = 2 from rfl] at iv
            obtain ⟨bl, off, cap, rfl, hbl, c0, c1, c2, c3⟩ := row_cells iv (hcl.out 2 (by decide)).1
            have hall := hA.trans (hB3.mono (by omega))
            have hcn := hcb.out 4
            have hpn := gP_bound hcn
            rw [show (gA 4).1 = 2 from rfl] at hcn
            obtain ⟨⟨z0, z1, z2, z3⟩, -⟩ := blk4 ((hB3.block _ (by omega)).trans pB)
            replace hcn := Lib.hid hcn
            replace hpn := Lib.hid hpn
            go_wp2_with fail
            refine (hcall _ hall).mono ?_
            clear z0 z1 z2 z3
            rintro e w2 ⟨rfl, hb2⟩
            have up := (bcell (hall.trans (hb2.mono hall.size))).1
            rw [← up _ _ hbl] at c0 c1 c2 c3
            clear up
            have hown4 := hown3.below hb2
            have hB4 := hB3.trans (hb2.mono (by have := hB3.size; simp at this; omega))
            clear hown3 hB3 hb2 hall
            go_wp2_with fail
            go_loop [10, 11] (fun s j => ∃ m : Nat, m ≤ 4 ∧ j = .int .i64 m ∧ s = .int .i64 (gP r 4 m)) (fun _ j => 4 - (intOf j).toNat)
            case atStart => exact ⟨0, by omega, rfl, rfl⟩
            case round =>
              obtain ⟨m, hm, rfl, rfl⟩ := hrel
              have hm5 : m = 0 ∨ m = 1 ∨ m = 2 ∨ m = 3 ∨ m = 4 := by omega
              have hpm := hpn.out m
              have hcm := hcn.out m
              rcases hm5 with rfl | rfl | rfl | rfl | rfl
              · skip
                have hs : Hid (gP r 4 (0 + 1) = gP r 4 0 + cellB r 2 0) := Lib.hid rfl
                go_wp2
                go_round
                case rel => exact ⟨0 + 1, by omega, by go_num, by rw [hs.out]⟩
                case measure => simp [intOf]
              · skip
                have hs : Hid (gP r 4 (1 + 1) = gP r 4 1) := Lib.hid rfl
                go_wp2
                go_round
                case rel => exact ⟨1 + 1, by omega, by go_num, by rw [hs.out]⟩
                case measure => simp [intOf]
              · skip
                have hs : Hid (gP r 4 (2 + 1) = gP r 4 2) := Lib.hid rfl
                go_wp2
                go_round
                case rel => exact ⟨2 + 1, by omega, by go_num, by rw [hs.out]⟩
                case measure => simp [intOf]
              · skip
                have hs : Hid (gP r 4 (3 + 1) = gP r 4 3 + cellB r 2 3) := Lib.hid rfl
                go_wp2
                go_round
                case rel => exact ⟨3 + 1, by omega, by go_num, by rw [hs.out]⟩
                case measure => simp [intOf]
              · have hsz := hB4.size
                simp only [World.size_alloc] at hsz
                go_wp2_with (at_builtin; refine wp_append_int _ _ rfl _ _ rfl (w.heap.size + 1) _ _ rfl hown4 rfl (by first | rfl | simp) (by rw [mapR_len]; omega) (by omega) ?_; intro v' w5 hown5 _ hB5 _)
                have hB6 := hB4.trans hB5
                replace hown5 : OwnI w5 (w.heap.size + 1) v' (mapR (gV r) (2 * 2 + (0 + 1))) := by rw [show 2 * 2 + (0 + 1) = 4 + 1 from rfl, mapR_succ]; exact hown5
                go_roundw
                case rel => exact ⟨0 + 1, by omega, by go_num, hown5, hB6⟩
                case measure => simp [intOf]
          · skip
            obtain ⟨v0, iv, hcall⟩ := at_l2Row _ r 1 1 2 w h2 hyy.out (by decide) (by rw [hlen.out]; decide)
            rw [show 1 * 2 + 1 = 3 from rfl] at iv
            obtain ⟨bl, off, cap, rfl, hbl, c0, c1, c2, c3⟩ := row_cells iv (hcl.out 3 (by decide)).1
            have hall := hA.trans (hB3.mono (by omega))
            have hcn := hcb.out 5
            have hpn := gP_bound hcn
            rw [show (gA 5).1 = 3 from rfl] at hcn
            obtain ⟨⟨z0, z1, z2, z3⟩, -⟩ := blk4 ((hB3.block _ (by omega)).trans pB)
            replace hcn := Lib.hid hcn
            replace hpn := Lib.hid hpn
            go_wp2_with fail
            refine (hcall _ hall).mono ?_
            clear z0 z1 z2 z3
            rintro e w2 ⟨rfl, hb2⟩
            have up := (bcell (hall.trans (hb2.mono hall.size))).1
            rw [← up _ _ hbl] at c0 c1 c2 c3
            clear up
            have hown4 := hown3.below hb2
            have hB4 := hB3.trans (hb2.mono (by have := hB3.size; simp at this; omega))
            clear hown3 hB3 hb2 hall
            go_wp2_with fail
            go_loop [10, 11] (fun s j => ∃ m : Nat, m ≤ 4 ∧ j = .int .i64 m ∧ s = .int .i64 (gP r 5 m)) (fun _ j => 4 - (intOf j).toNat)
            case atStart => exact ⟨0, by omega, rfl, rfl⟩
            case round =>
              obtain ⟨m, hm, rfl, rfl⟩ := hrel
              have hm5 : m = 0 ∨ m = 1 ∨ m = 2 ∨ m = 3 ∨ m = 4 := by omega
              have hpm := hpn.out m
              have hcm := hcn.out m
              rcases hm5 with rfl | rfl | rfl | rfl | rfl
              · skip
                have hs : Hid (gP r 5 (0 + 1) = gP r 5 0) := Lib.hid rfl
                go_wp2
                go_round
                case rel => exact ⟨0 + 1, by omega, by go_num, by rw [hs.out]⟩
                case measure => simp [intOf]
              · skip
                have hs : Hid (gP r 5 (1 + 1) = gP r 5 1 + cellB r 3 1) := Lib.hid rfl
                go_wp2
                go_round
                case rel => exact ⟨1 + 1, by omega, by go_num, by rw [hs.out]⟩
                case measure => simp [intOf]
              · skip
                have hs : Hid (gP r 5 (2 + 1) = gP r 5 2 + cellB r 3 2) := Lib.hid rfl
                go_wp2
                go_round
                case rel => exact ⟨2 + 1, by omega, by go_num, by rw [hs.out]⟩
                case measure => simp [intOf]
              · skip
                have hs : Hid (gP r 5 (3 + 1) = gP r 5 3) := Lib.hid rfl
                go_wp2
                go_round
                case rel => exact ⟨3 + 1, by omega, by go_num, by rw [hs.out]⟩
                case measure => simp [intOf]
              · have hsz := hB4.size
                simp only [World.size_alloc] at hsz
                go_wp2_with (at_builtin; refine wp_append_int _ _ rfl _ _ rfl (w.heap.size + 1) _ _ rfl hown4 rfl (by first | rfl | simp) (by rw [mapR_len]; omega) (by omega) ?_; intro v' w5 hown5 _ hB5 _)
                have hB6 := hB4.trans hB5
                replace hown5 : OwnI w5 (w.heap.size + 1) v' (mapR (gV r) (2 * 2 + (1 + 1))) := by rw [show 2 * 2 + (1 + 1) = 5 + 1 from rfl, mapR_succ]; exact hown5
                go_roundw
                case rel => exact ⟨1 + 1, by omega, by go_num, hown5, hB6⟩
                case measure => simp [intOf]
          · go_wp2
            go_roundw
            case rel => exact ⟨2 + 1, by omega, by go_num, hown3, hB3⟩
            case measure => simp [intOf]
      · skip
        go_wp2_with fail
        go_loopw [4, 8] (fun v j wr => ∃ i : Nat, i ≤ 2 ∧ j = .int .i64 i ∧ OwnI wr (w.heap.size + 1) v (mapR (gV r) (2 * 3 + i)) ∧ Below (w.heap.size + 1) (w.alloc (.cells #[.int .i64 r.x, .int .i64 r.y, .int .i64 r.w, .slice a4 r.r.length k4] 50)) wr) (fun _ j _ => 2 - (intOf j).toNat)
        case atStart => exact ⟨0, by omega, rfl, hown, hB⟩
        case round =>
          clear hown hB
          obtain ⟨i, hi, rfl, hown3, hB3⟩ := hrel
          have hi3 : i = 0 ∨ i = 1 ∨ i = 2 := by omega
          rcases hi3 with rfl | rfl | rfl
          · skip
            obtain ⟨v0, iv, hcall⟩ := at_l2Row _ r 0 0 2 w h2 hyy.out (by decide) (by rw [hlen.out]; decide)
            rw [show 0 * 2 + 0 = 0 from rfl] at iv
            obtain ⟨bl, off, cap, rfl, hbl, c0, c1, c2, c3⟩ := row_cells iv (hcl.out 0 (by decide)).1
            have hall := hA.trans (hB3.mono (by omega))
            have hcn := hcb.out 6
            have hpn := gP_bound hcn
            rw [show (gA 6).1 = 0 from rfl] at hcn
            obtain ⟨⟨z0, z1, z2, z3⟩, -⟩ := blk4 ((hB3.block _ (by omega)).trans pB)
            replace hcn := Lib.hid hcn
            replace hpn := Lib.hid hpn
            go_wp2_with fail
            refine (hcall _ hall).mono ?_
            clear z0 z1 z2 z3
            rintro e w2 ⟨rfl, hb2⟩
            have up := (bcell (hall.trans (hb2.mono hall.size))).1
            rw [← up _ _ hbl] at c0 c1 c2 c3
            clear up
            have hown4 := hown3.below hb2
            have hB4 := hB3.trans (hb2.mono (by have := hB3.size; simp at this; omega))
            clear hown3 hB3 hb2 hall
            go_wp2_with fail
            go_loop [10, 11] (fun s j => ∃ m : Nat, m ≤ 4 ∧ j = .int .i64 m ∧ s = .int .i64 (gP r 6 m)) (fun _ j => 4 - (intOf j).toNat)
            case atStart => exact ⟨0, by omega, rfl, rfl⟩
            case round =>
              obtain ⟨m, hm, rfl, rfl⟩ := hrel
              have hm5 : m = 0 ∨ m = 1 ∨ m = 2 ∨ m = 3 ∨ m = 4 := by omega
              have hpm := hpn.out m
              have hcm := hcn.out m
              rcases hm5 with rfl | rfl | rfl | rfl | rfl
              · skip
                have hs : Hid (gP r 6 (0 + 1) = gP r 6 0 + cellB r 0 0) := Lib.hid rfl
                go_wp2
                go_round
                case rel => exact ⟨0 + 1, by omega, by go_num, by rw [hs.out]⟩
                case measure => simp [intOf]
              · skip
                have hs : Hid (gP r 6 (1 + 1) = gP r 6 1) := Lib.hid rfl
                go_wp2
                go_round
                case rel => exact ⟨1 + 1, by omega, by go_num, by rw [hs.out]⟩
                case measure => simp [intOf]
              · skip
                have hs : Hid (gP r 6 (2 + 1) = gP r 6 2) := Lib.hid rfl
                go_wp2
                go_round
                case rel => exact ⟨2 + 1, by omega, by go_num, by rw [hs.out]⟩
                case measure => simp [intOf]
              · skip
                have hs : Hid (gP r 6 (3 + 1) = gP r 6 3 + cellB r 0 3) := Lib.hid rfl
                go_wp2
                go_round
                case rel => exact ⟨3 + 1, by omega, by go_num, by rw [hs.out]⟩
                case measure => simp [intOf]
              · have hsz := hB4.size
                simp only [World.size_alloc] at hsz
                go_wp2_with (at_builtin; refine wp_append_int _ _ rfl _ _ rfl (w.heap.size + 1) _ _ rfl hown4 rfl (by first | rfl | simp) (by rw [mapR_len]; omega) (by omega) ?_; intro v' w5 hown5 _ hB5 _)
                have hB6 := hB4.trans hB5
                replace hown5 : OwnI w5 (w.heap.size + 1) v' (mapR (gV r) (2 * 3 + (0 + 1))) := by rw [show 2 * 3 + (0 + 1) = 6 + 1 from rfl, mapR_succ]; exact hown5
                go_roundw
                case rel => exact ⟨0 + 1, by omega, by go_num, hown5, hB6⟩
                case measure => simp [intOf]
          · skip
            obtain ⟨v0, iv, hcall⟩ := at_l2Row _ r 0 1 2 w h2 hyy.out (by decide) (by rw [hlen.out]; decide)
            rw [show 0 * 2 + 1 = 1 from rfl] at iv
            obtain ⟨bl, off, cap, rfl, hbl, c0, c1, c2, c3⟩ := row_cells iv (hcl.out 1 (by decide)).1
            have hall := hA.trans (hB3.mono (by omega))
            have hcn := hcb.out 7
            have hpn := gP_bound hcn
            rw [show (gA 7).1 = 1 from rfl] at hcn
            obtain ⟨⟨z0, z1, z2, z3⟩, -⟩ := blk4 ((hB3.block _ (by omega)).trans pB)
            replace hcn := Lib.hid hcn
            replace hpn := Lib.hid hpn
            go_wp2_with fail
            refine (hcall _ hall).mono ?_
            clear z0 z1 z2 z3
            rintro e w2 ⟨rfl, hb2⟩
            have up := (bcell (hall.trans (hb2.mono hall.size))).1
            rw [← up _ _ hbl] at c0 c1 c2 c3
            clear up
            have hown4 := hown3.below hb2
            have hB4 := hB3.trans (hb2.mono (by have := hB3.size; simp at this; omega))
            clear hown3 hB3 hb2 hall
            go_wp2_with fail
            go_loop [10, 11] (fun s j => ∃ m : Nat, m ≤ 4 ∧ j = .int .i64 m ∧ s = .int .i64 (gP r 7 m)) (fun _ j => 4 - (intOf j).toNat)
            case atStart => exact ⟨0, by omega, rfl, rfl⟩
            case round =>
              obtain ⟨m, hm, rfl, rfl⟩ := hrel
              have hm5 : m = 0 ∨ m = 1 ∨ m = 2 ∨ m = 3 ∨ m = 4 := by omega
              have hpm := hpn.out m
              have hcm := hcn.out m
              rcases hm5 with rfl | rfl | rfl | rfl | rfl
              · skip
                have hs : Hid (gP r 7 (0 + 1) = gP r 7 0 + cellB r 1 0) := Lib.hid rfl
                go_wp2
                go_round
                case rel => exact ⟨0 + 1, by omega, by go_num, by rw [hs.out]⟩
                case measure => simp [intOf]
              · skip
                have hs : Hid (gP r 7 (1 + 1) = gP r 7 1) := Lib.hid rfl
                go_wp2
                go_round
                case rel => exact ⟨1 + 1, by omega, by go_num, by rw [hs.out]⟩
                case measure => simp [intOf]
              · skip
                have hs : Hid (gP r 7 (2 + 1) = gP r 7 2) := Lib.hid rfl
                go_wp2
                go_round
                case rel => exact ⟨2 + 1, by omega, by go_num, by rw [hs.out]⟩
                case measure => simp [intOf]
              · skip
                have hs : Hid (gP r 7 (3 + 1) = gP r 7 3 + cellB r 1 3) := Lib.hid rfl
                go_wp2
                go_round
                case rel => exact ⟨3 + 1, by omega, by go_num, by rw [hs.out]⟩
                case measure => simp [intOf]
              · have hsz := hB4.size
                simp only [World.size_alloc] at hsz
                go_wp2_with (at_builtin; refine wp_append_int _ _ rfl _ _ rfl (w.heap.size + 1) _ _ rfl hown4 rfl (by first | rfl | simp) (by rw [mapR_len]; omega) (by omega) ?_; intro v' w5 hown5 _ hB5 _)
                have hB6 := hB4.trans hB5
                replace hown5 : OwnI w5 (w.heap.size + 1) v' (mapR (gV r) (2 * 3 + (1 + 1))) := by rw [show 2 * 3 + (1 + 1) = 7 + 1 from rfl, mapR_succ]; exact hown5
                go_roundw
                case rel => exact ⟨1 + 1, by omega, by go_num, hown5, hB6⟩
                case measure => simp [intOf]
          · go_wp2
            go_roundw
            case rel => exact ⟨3 + 1, by omega, by go_num, hown3, hB3⟩
            case measure => simp [intOf]
      · go_wp2
        go_ret2
        exact ⟨_, rfl, by rw [hF.out]; exact hown.mono (by omega), hA.trans (hB.mono (by omega))⟩
end Go.Proofs.Ytjeaeninpmaoiaa
