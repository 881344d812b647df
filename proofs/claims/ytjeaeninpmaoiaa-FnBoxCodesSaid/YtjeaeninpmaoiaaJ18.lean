/- Boxes that are drawn from bytes, for the codes; conditions: none. -/
import Derived.Test.YtjeaeninpmaoiaaJ17
import Derived.Test.YtjeaeninpmaoiaaJ13
import Derived.Test.YtjeaeninpmaoiaaJ12
import Derived.Test.YtjeaeninpmaoiaaJ6
import Derived.Test.YtjeaeninpmaoiaaJ4
import Derived.BigQuiet
import Derived.ChangeKeysEq
namespace Go.Proofs.Ytjeaeninpmaoiaa
open Go.RowKit

theorem BoxO.parts2 {w : World} {lo : Nat} {v : Value} {r : BoxD} (h : BoxO w lo v r) :
    ∃ x y n l rs a c, v = .agg #[.int .i64 x, .int .i64 y, .int .i64 n, .slice a l c] ∧ BoxO w lo (.agg #[.int .i64 x, .int .i64 y, .int .i64 n, .slice a l c]) ⟨x, y, n, rs⟩ := by
  obtain ⟨a, c, rfl⟩ := h.form
  exact ⟨r.x, r.y, r.w, r.r.length, r.r, a, c, rfl, h⟩
set_option maxRecDepth 100000 in
set_option maxHeartbeats 4000000 in
theorem c_box (cg K : Nat) (w : World) (h : CurR w cg K) (hK : K < 1050000000) :
    Calls Try.prog 71 #[.pointer (some ⟨cg, 0, none⟩)] w fun e w' => ∃ v' r, e = .returned v' ∧ BoxO w' w.heap.size v' r ∧ CurR w' cg (K + 4000) ∧ KeptOff (fun k => k = cg) w w' := by
  have hg := h.lt
  have hA0 := (Below.refl w.heap.size w).alloc (Nat.le_refl _) (.cells #[.int .i64 0, .int .i64 0, .int .i64 0, .slice none 0 0] 50)
  obtain ⟨w0, hw0⟩ : ∃ z, z = w.alloc (.cells #[.int .i64 0, .int .i64 0, .int .i64 0, .slice none 0 0] 50) := ⟨_, rfl⟩
  have hz0 : w0.heap.size = w.heap.size + 1 := by rw [hw0]; simp
  have p0 : w0.heap[w.heap.size]? = some (.cells #[.int .i64 0, .int .i64 0, .int .i64 0, .slice none 0 0] 50 (0, 0)) := by rw [hw0]; exact heap_alloc_at rfl
  rw [← hw0] at hA0
  have hc0 := h.below hA0
  go_enter Try.func71, Try.ntmps71
  go_wp2_with fail
  rw [← hw0]
  clear hw0
  refine (c_sizes cg K _ hc0 (by omega)).mono ?_
  rintro e w1 ⟨x, y, rfl, -, -, hc1, hk1⟩
  go_wp2_with fail
  refine (c_one cg _ 2 _ hc1 (by omega) (by omega)).mono ?_
  rintro e w2 ⟨b, rfl, hc2, hk2⟩
  have hk02 := hk1.trans hk2
  have hz2 := hk02.size
  clear hk1 hk2 hc1 hc0
  cases b
  · go_wp2_with fail
    refine (c_quietOf cg _ x y _ hc2 (by omega)).mono ?_
    rintro e w3 ⟨v3, r3, rfl, hO3, hl3, hc3, hk3⟩
    have hz3 := hk3.size
    go_wp2_with fail
    refine (c_spoil cg _ w2.heap.size v3 r3 _ hc3 (by omega) hO3 (by omega) hz3 hl3).mono ?_
    rintro e w4 ⟨v4, r4, rfl, hO8, hc8, hk4'⟩
    have hk8 : KeptOff (fun k => k = cg ∨ w2.heap.size ≤ k) w0 w4 := ((hk02.trans hk3).mono fun k e => .inl e).trans hk4'
    clear hk02 hk3 hk4' hO3 hc3 hc2
    obtain ⟨rx, ry, rw', n8, rs8, a8, c8, e8, hO⟩ := hO8.parts2
    subst e8
    have pz := (hk8.block w.heap.size (by omega) (by omega)).trans p0
    have hwz := (Array.getElem?_eq_some_iff.1 pz).1
    obtain ⟨⟨i0, i1, i2, i3⟩, g0, g1, g2, g3⟩ := blk4 pz
    obtain ⟨⟨⟨q0, q1⟩, q2, q3⟩, -, hk4⟩ := storedB pz (.int .i64 rx) (.int .i64 ry) (.int .i64 rw') (.slice a8 n8 c8)
    replace q0 := Lib.hid q0
    replace q1 := Lib.hid q1
    replace q2 := Lib.hid q2
    replace q3 := Lib.hid q3
    have hc9 := CurR.off hc8 hk4 (fun k e => by omega)
    have hfin := Lib.hid (And.intro ((hO.stored pz (.int .i64 rx) (.int .i64 ry) (.int .i64 rw') (.slice a8 n8 c8)).mono (show w.heap.size ≤ w2.heap.size by omega)) (And.intro (hc9.more (show _ ≤ K + 4000 by omega)) (keptc (F := fun k => k = cg) (keptc (F := fun k => k = cg) (kept0 hA0 |>.mono fun _ f => f.elim) hk8 (fun k e1 e2 => by rcases e2 with e2 | e2 <;> omega)) hk4 (fun k e1 e2 => by omega))))
    clear pz hO hk8 hk4 hc8 hc9 hA0 hO8
    go_wp2
    refine bodyPost_ret (v := .agg #[.int .i64 rx, .int .i64 ry, .int .i64 rw', .slice a8 n8 c8]) (by simp [results, Try.results71, go_sem, q0.out, q1.out, q2.out, q3.out]) rfl (by first | exact ⟨_, _, rfl, hfin.out.1, hfin.out.2⟩ | exact ⟨_, rfl, ⟨_, hfin.out.1⟩, hfin.out.2⟩)
  · go_wp2_with fail
    refine (c_someBox cg _ x y _ hc2 (by omega)).mono ?_
    rintro e w3 ⟨v3, r3, rfl, hO3, ⟨-, -, hl3⟩, hc3, hk3⟩
    have hz3 := hk3.size
    go_wp2_with fail
    refine (c_spoil cg _ w2.heap.size v3 r3 _ hc3 (by omega) hO3 (by omega) hz3 hl3).mono ?_
    rintro e w4 ⟨v4, r4, rfl, hO8, hc8, hk4'⟩
    have hk8 : KeptOff (fun k => k = cg ∨ w2.heap.size ≤ k) w0 w4 := ((hk02.trans hk3).mono fun k e => .inl e).trans hk4'
    clear hk02 hk3 hk4' hO3 hc3 hc2
    obtain ⟨rx, ry, rw', n8, rs8, a8, c8, e8, hO⟩ := hO8.parts2
    subst e8
    have pz := (hk8.block w.heap.size (by omega) (by omega)).trans p0
    have hwz := (Array.getElem?_eq_some_iff.1 pz).1
    obtain ⟨⟨i0, i1, i2, i3⟩, g0, g1, g2, g3⟩ := blk4 pz
    obtain ⟨⟨⟨q0, q1⟩, q2, q3⟩, -, hk4⟩ := storedB pz (.int .i64 rx) (.int .i64 ry) (.int .i64 rw') (.slice a8 n8 c8)
    replace q0 := Lib.hid q0
    replace q1 := Lib.hid q1
    replace q2 := Lib.hid q2
    replace q3 := Lib.hid q3
    have hc9 := CurR.off hc8 hk4 (fun k e => by omega)
    have hfin := Lib.hid (And.intro ((hO.stored pz (.int .i64 rx) (.int .i64 ry) (.int .i64 rw') (.slice a8 n8 c8)).mono (show w.heap.size ≤ w2.heap.size by omega)) (And.intro (hc9.more (show _ ≤ K + 4000 by omega)) (keptc (F := fun k => k = cg) (keptc (F := fun k => k = cg) (kept0 hA0 |>.mono fun _ f => f.elim) hk8 (fun k e1 e2 => by rcases e2 with e2 | e2 <;> omega)) hk4 (fun k e1 e2 => by omega))))
    clear pz hO hk8 hk4 hc8 hc9 hA0 hO8
    go_wp2
    refine bodyPost_ret (v := .agg #[.int .i64 rx, .int .i64 ry, .int .i64 rw', .slice a8 n8 c8]) (by simp [results, Try.results71, go_sem, q0.out, q1.out, q2.out, q3.out]) rfl (by first | exact ⟨_, _, rfl, hfin.out.1, hfin.out.2⟩ | exact ⟨_, rfl, ⟨_, hfin.out.1⟩, hfin.out.2⟩)
set_option maxRecDepth 100000 in
set_option maxHeartbeats 4000000 in
theorem c_DrawBoxCode (v : Value) (m : Nat) (w : World) (h : BytesV w v m) :
    Calls Try.prog 35 #[v] w fun e w' => ∃ v' r, e = .returned v' ∧ BoxO w' w.heap.size v' r ∧ Below w.heap.size w w' := by
  obtain ⟨ad, cap, rfl, hcap, hbr⟩ := id h
  have hA0 := (Below.refl w.heap.size w).alloc (Nat.le_refl _) (.cells #[.int .i64 0, .int .i64 0, .int .i64 0, .slice none 0 0] 50)
  obtain ⟨w0, hw0⟩ : ∃ z, z = w.alloc (.cells #[.int .i64 0, .int .i64 0, .int .i64 0, .slice none 0 0] 50) := ⟨_, rfl⟩
  have hz0 : w0.heap.size = w.heap.size + 1 := by rw [hw0]; simp
  have p0 : w0.heap[w.heap.size]? = some (.cells #[.int .i64 0, .int .i64 0, .int .i64 0, .slice none 0 0] 50 (0, 0)) := by rw [hw0]; exact heap_alloc_at rfl
  rw [← hw0] at hA0
  have hcn := cur_new (cap := cap) (hbr.below hA0)
  have hAc := (Below.refl w0.heap.size w0).alloc (Nat.le_refl _) (.cells #[.slice ad m cap, .int .i64 0, .int .u64 0] 63)
  obtain ⟨wa, hwa⟩ : ∃ z, z = w0.alloc (.cells #[.slice ad m cap, .int .i64 0, .int .u64 0] 63) := ⟨_, rfl⟩
  have hza : wa.heap.size = w0.heap.size + 1 := by rw [hwa]; simp
  rw [← hwa] at hcn hAc
  replace p0 := blk_later hAc p0
  have hAA := bstep hA0 hAc
  obtain ⟨cg, hcg⟩ : ∃ z, z = w.heap.size + 1 := ⟨_, rfl⟩
  rw [hz0, ← hcg] at hcn
  go_enter Try.func35, Try.ntmps35
  go_upto_region 2 with fail
  rw [← hw0, ← hwa, ← hcg]
  clear hw0 hwa
  have hq1 : w.heap.size < cg ∧ cg < wa.heap.size := by omega
  clear hcg hza hz0 hA0 hAc hbr
  go_wp2_with fail
  refine (c_pick cg _ 8 _ hcn (by omega) (by omega)).mono ?_
  rintro e w2 ⟨q, rfl, -, hc2, hk2⟩
  have hz2 := hk2.size
  by_cases hq0 : q = 0
  · subst hq0
    go_wp2_with fail
    refine (c_box cg _ _ hc2 (by omega)).mono ?_
    rintro e w3 ⟨v3, r3, rfl, hO8, hc8, hk3⟩
    have hk8 := hk2.trans hk3
    clear hk2 hk3 hc2 hcn
    obtain ⟨rx, ry, rw', n8, rs8, a8, c8, e8, hO⟩ := hO8.parts2
    subst e8
    have pz := (hk8.block w.heap.size (by omega) (by omega)).trans p0
    have hwz := (Array.getElem?_eq_some_iff.1 pz).1
    obtain ⟨⟨i0, i1, i2, i3⟩, g0, g1, g2, g3⟩ := blk4 pz
    obtain ⟨⟨⟨q0, q1⟩, q2, q3⟩, -, hk4⟩ := storedB pz (.int .i64 rx) (.int .i64 ry) (.int .i64 rw') (.slice a8 n8 c8)
    replace q0 := Lib.hid q0
    replace q1 := Lib.hid q1
    replace q2 := Lib.hid q2
    replace q3 := Lib.hid q3
    have hfin := Lib.hid (And.intro ((hO.stored pz (.int .i64 rx) (.int .i64 ry) (.int .i64 rw') (.slice a8 n8 c8)).mono (show w.heap.size ≤ w2.heap.size by omega)) (hAA.trans ((hk8.below (B := w.heap.size) (fun k e => by omega) (by omega)).trans (hk4.below (B := w.heap.size) (fun k e => by omega) (by omega)))))
    clear pz hO hk8 hk4 hc8 hAA hO8
    go_wp2
    refine bodyPost_ret (v := .agg #[.int .i64 rx, .int .i64 ry, .int .i64 rw', .slice a8 n8 c8]) (by simp [results, Try.results35, go_sem, q0.out, q1.out, q2.out, q3.out]) rfl (by first | exact ⟨_, _, rfl, hfin.out.1, hfin.out.2⟩ | exact ⟨_, rfl, ⟨_, hfin.out.1⟩, hfin.out.2⟩)
  have hq0' : ((q : Int) == 0) = false := by simp; omega
  by_cases hq2 : q = 1
  · subst hq2
    go_wp2_with fail
    refine (c_someBox cg _ 2 2 _ hc2 (by omega)).mono ?_
    rintro e w3 ⟨v3, r3, rfl, hO8, -, hc8, hk3⟩
    have hk8 := hk2.trans hk3
    clear hk2 hk3 hc2 hcn
    obtain ⟨rx, ry, rw', n8, rs8, a8, c8, e8, hO⟩ := hO8.parts2
    subst e8
    have pz := (hk8.block w.heap.size (by omega) (by omega)).trans p0
    have hwz := (Array.getElem?_eq_some_iff.1 pz).1
    obtain ⟨⟨i0, i1, i2, i3⟩, g0, g1, g2, g3⟩ := blk4 pz
    obtain ⟨⟨⟨q0, q1⟩, q2, q3⟩, -, hk4⟩ := storedB pz (.int .i64 rx) (.int .i64 ry) (.int .i64 rw') (.slice a8 n8 c8)
    replace q0 := Lib.hid q0
    replace q1 := Lib.hid q1
    replace q2 := Lib.hid q2
    replace q3 := Lib.hid q3
    have hfin := Lib.hid (And.intro ((hO.stored pz (.int .i64 rx) (.int .i64 ry) (.int .i64 rw') (.slice a8 n8 c8)).mono (show w.heap.size ≤ w2.heap.size by omega)) (hAA.trans ((hk8.below (B := w.heap.size) (fun k e => by omega) (by omega)).trans (hk4.below (B := w.heap.size) (fun k e => by omega) (by omega)))))
    clear pz hO hk8 hk4 hc8 hAA hO8
    go_wp2
    refine bodyPost_ret (v := .agg #[.int .i64 rx, .int .i64 ry, .int .i64 rw', .slice a8 n8 c8]) (by simp [results, Try.results35, go_sem, q0.out, q1.out, q2.out, q3.out]) rfl (by first | exact ⟨_, _, rfl, hfin.out.1, hfin.out.2⟩ | exact ⟨_, rfl, ⟨_, hfin.out.1⟩, hfin.out.2⟩)
  have hq1' : ((q : Int) == 1) = false := by simp; omega
  go_wp2_with fail
  refine (c_quietOf cg _ 2 2 _ hc2 (by omega)).mono ?_
  rintro e w3 ⟨v3, r3, rfl, hO8, -, hc8, hk3⟩
  have hk8 := hk2.trans hk3
  clear hk2 hk3 hc2 hcn
  obtain ⟨rx, ry, rw', n8, rs8, a8, c8, e8, hO⟩ := hO8.parts2
  subst e8
  have pz := (hk8.block w.heap.size (by omega) (by omega)).trans p0
  have hwz := (Array.getElem?_eq_some_iff.1 pz).1
  obtain ⟨⟨i0, i1, i2, i3⟩, g0, g1, g2, g3⟩ := blk4 pz
  obtain ⟨⟨⟨q0, q1⟩, q2, q3⟩, -, hk4⟩ := storedB pz (.int .i64 rx) (.int .i64 ry) (.int .i64 rw') (.slice a8 n8 c8)
  replace q0 := Lib.hid q0
  replace q1 := Lib.hid q1
  replace q2 := Lib.hid q2
  replace q3 := Lib.hid q3
  have hfin := Lib.hid (And.intro ((hO.stored pz (.int .i64 rx) (.int .i64 ry) (.int .i64 rw') (.slice a8 n8 c8)).mono (show w.heap.size ≤ w2.heap.size by omega)) (hAA.trans ((hk8.below (B := w.heap.size) (fun k e => by omega) (by omega)).trans (hk4.below (B := w.heap.size) (fun k e => by omega) (by omega)))))
  clear pz hO hk8 hk4 hc8 hAA hO8
  go_wp2
  refine bodyPost_ret (v := .agg #[.int .i64 rx, .int .i64 ry, .int .i64 rw', .slice a8 n8 c8]) (by simp [results, Try.results35, go_sem, q0.out, q1.out, q2.out, q3.out]) rfl (by first | exact ⟨_, _, rfl, hfin.out.1, hfin.out.2⟩ | exact ⟨_, rfl, ⟨_, hfin.out.1⟩, hfin.out.2⟩)
end Go.Proofs.Ytjeaeninpmaoiaa
/- A region that draws its order, of which some operations stand in a chain and the others float; conditions: none. -/
namespace Go.Proofs.Ytjeaeninpmaoiaa
open Go.RowKit

/-- each of the chain waits for the one before it -/
def chainOk (ops : Array Oper) (t : Nat) (ch : List Nat) : Bool :=
  (List.range ch.length).all fun q => decide (ch.getD q 0 < t) && (q == 0 || (reach ops ops.size ((ops[ch.getD q 0]?).elim [] deps)).contains (ch.getD (q - 1) 0)) && (List.range q).all fun p => ch.getD p 0 != ch.getD q 0

def StoodH (S : World → World → Prop) (K : Value → World → Prop) (a : Act) (sl : List (Option Nat)) (u : Nat → Value) (o : Oper) (w : World) (Q : Exit → Act → World → Prop) : Exit → Act → World → Prop
  | .normal, a', w' => ∃ v, a' = (putAll a sl u).put o.dst v ∧ S w w' ∧ K v w'
  | e, a', w' => Q e a' w'

theorem wp_region_chain {P : Program} {ops : Array Oper} {Q : Exit → Act → World → Prop} {a : Act} {w0 : World} {id : Nat} (hm : P.follows .mixedOrders = true)
    (sl : List (Option Nat)) (t : Nat) (hs : slotsB ops sl = true) (hord : orderB ops = true) (htl : tailsB ops t = true) (ht : t ≤ ops.size) (tl : List Oper) (htl2 : ops.toList.drop t = tl)
    (ch : List Nat) (hch : chainOk ops t ch = true)
    (S : World → World → Prop) (R : Nat → Value → World → Prop) (I : Nat → (Nat → Value) → World → Prop)
    (hmono : ∀ i v w w', R i v w → S w w' → R i v w') (h0 : ∀ u, I 0 u w0.drew)
    (hfloat : ∀ i o, ops[i]? = some o → i < t → i ∉ ch → ∀ s u w, I s u w → (∀ j ∈ deps o, j ∉ ch → R j (u j) w) → (∀ q, q < ch.length → ch.getD q 0 ∈ deps o → q < s) → s ≤ ch.length → (∀ q o', q < s → ops[ch.getD q 0]? = some o' → i ∉ deps o') → wpList P ops (StoodH S (fun v w' => I s (upd u i v) w' ∧ R i v w') a sl u o w Q) [o] (putAll a sl u) w)
    (hchain : ∀ s o, s < ch.length → ops[ch.getD s 0]? = some o → ∀ u w, I s u w → (∀ j ∈ deps o, j ∉ ch → R j (u j) w) → wpList P ops (StoodH S (fun v w' => I (s + 1) (upd u (ch.getD s 0) v) w') a sl u o w Q) [o] (putAll a sl u) w)
    (hend : ∀ u w, I ch.length u w → (∀ j, j < t → j ∉ ch → R j (u j) w) → wpList P ops Q tl (putAll a sl u) w) :
    (Code.region id ops true).wp P Q a w0 := by
  subst htl2
  simp only [chainOk, List.all_eq_true, List.mem_range, Bool.and_eq_true, decide_eq_true_eq, Bool.or_eq_true, beq_iff_eq, bne_iff_ne] at hch
  have hmem : ∀ q, q < ch.length → ch.getD q 0 ∈ ch := fun q hq => by
    rw [List.getD_eq_getElem?_getD, List.getElem?_eq_getElem hq]; simp
  have hof : ∀ i, i ∈ ch → ∃ q, q < ch.length ∧ ch.getD q 0 = i := fun i hi => by
    obtain ⟨q, hq, e⟩ := List.getElem_of_mem hi
    exact ⟨q, hq, by rw [List.getD_eq_getElem?_getD, List.getElem?_eq_getElem hq]; exact e⟩
  have key : ∀ fuel (L : Array Bool) (n s : Nat) (u : Nat → Value) (w : World), L.size = ops.size → ((L.toList.take t).countP (fun b => !b) + n = t) → t - n + (ops.size - t) ≤ fuel → (∀ j, t ≤ j → L.getD j false = false) → s ≤ ch.length → (∀ q, q < ch.length → (L.getD (ch.getD q 0) false = true ↔ q < s)) → I s u w →
      (∀ j o, ops[j]? = some o → L.getD j false = true → ∀ k ∈ deps o, L.getD k false = true) → (∀ j, j ∉ ch → L.getD j false = true → R j (u j) w) →
      wpAny P .any ops Q fuel L (putAll a sl u) w := by
    intro fuel
    induction fuel with
    | zero =>
      intro L n s u w hsz hcnt hf hn hsl hcl hI hC hR
      have hnt : n = t := by omega
      subst hnt
      have hall : ∀ j, j < n → L.getD j false = true := by
        intro j hj
        have hj' : j < L.size := by omega
        cases hLj : L[j] with
        | true => simp [Array.getD, hj', hLj]
        | false =>
          have hmem : false ∈ L.toList.take n := by
            rw [List.mem_take_iff_getElem]
            exact ⟨j, by simp; omega, by simpa using hLj⟩
          have hpos : 0 < (L.toList.take n).countP (fun b => !b) := List.countP_pos_iff.2 ⟨false, hmem, rfl⟩
          omega
      have hse : s = ch.length := by
        apply Classical.byContradiction
        intro hne
        have hlt : s < ch.length := by omega
        have := (hcl s hlt).1 (hall _ (hch s hlt).1.1)
        omega
      subst hse
      exact wpAny_tail htl hord (ops.size - n) n 0 L _ w (by omega) (Nat.le_refl _) hsz hall hn (by omega) (hend u w hI fun j hj hj2 => hR j hj2 (hall j hj))
    | succ fuel ih =>
      intro L n s u w hsz hcnt hf hn hsl hcl hI hC hR
      by_cases hall : ∀ j, j < t → L.getD j false = true
      · have hz : (L.toList.take t).countP (fun b => !b) = 0 := by
          rw [List.countP_eq_zero]
          intro b hb
          rw [List.mem_take_iff_getElem] at hb
          obtain ⟨j, hj, rfl⟩ := hb
          have hj2 : j < t := by omega
          have hj3 : j < L.size := by omega
          have := hall j hj2
          simp only [Array.getD, hj3, dif_pos] at this
          simp
          exact this
        have hnt : n = t := by omega
        subst hnt
        have hse : s = ch.length := by
          apply Classical.byContradiction
          intro hne
          have hlt : s < ch.length := by omega
          have := (hcl s hlt).1 (hall _ (hch s hlt).1.1)
          omega
        subst hse
        exact wpAny_tail htl hord (ops.size - n) n (fuel + 1) L _ w (by omega) (Nat.le_refl _) hsz hall hn (by omega) (hend u w hI fun j hj hj2 => hR j hj2 (hall j hj))
      · have hex : ∃ j, j < t ∧ L.getD j false = false := by
          apply Classical.byContradiction
          intro hno
          apply hall
          intro j hj
          cases hb : L.getD j false
          · exact absurd ⟨j, hj, hb⟩ hno
          · rfl
        obtain ⟨j0, hj0, hl0⟩ := hex
        have hj0s : j0 < ops.size := by omega
        have hl0' : L.getD j0 true = false := by simpa [Array.getD, hsz, hj0s] using hl0
        refine ⟨fun hnil => absurd hnil (ready_some hord hsz hl0'), fun i hi => ?_⟩
        obtain ⟨o, ho, hli, hd⟩ := ready_deps hi
        have hio := (Array.getElem?_eq_some_iff.1 ho).1
        have hilt : i < L.size := by omega
        have hli' : L.getD i false = false := by simpa [Array.getD, hilt] using hli
        have hit : i < t := by
          apply Nat.lt_of_not_le; intro hle
          have := reach_listed hC _ _ hd j0 (tails_of htl hle ho (by omega))
          rw [hl0] at this; cases this
        have hget : ∀ j, (L.setIfInBounds i true).getD j false = if j = i then true else L.getD j false := by
          intro j
          simp only [Array.getD_eq_getD_getElem?, Array.getElem?_setIfInBounds]
          by_cases e : i = j
          · subst e; simp [hilt]
          · rw [if_neg e, if_neg (fun e' => e e'.symm)]
        have hpos : 0 < (L.toList.take t).countP (fun b => !b) := by
          refine List.countP_pos_iff.2 ⟨false, ?_, rfl⟩
          rw [List.mem_take_iff_getElem]
          exact ⟨i, by simp; omega, by simpa [Array.getD, hilt] using hli⟩
        have hcnt' : ((L.setIfInBounds i true).toList.take t).countP (fun b => !b) + (n + 1) = t := by
          have h1 : L[i] = false := by simpa [Array.getD, hilt] using hli
          rw [Array.toList_setIfInBounds]
          have hli2 : i < L.toList.length := by simpa using hilt
          have hlt2 : i < (L.toList.take t).length := by simp; omega
          rw [List.take_set, List.set_eq_take_append_cons_drop, if_pos hlt2, List.countP_append, List.countP_cons]
          have h2 : L.toList.take t = (L.toList.take t).take i ++ (L.toList.take t)[i] :: (L.toList.take t).drop (i + 1) := by
            rw [← List.drop_eq_getElem_cons hlt2, List.take_append_drop]
          rw [h2, List.countP_append, List.countP_cons] at hcnt
          simp only [List.getElem_take, Array.getElem_toList, h1, Bool.not_false, if_true, Bool.not_true, Bool.false_eq_true, if_false] at hcnt ⊢
          omega
        have hC' : ∀ j oj, ops[j]? = some oj → (L.setIfInBounds i true).getD j false = true → ∀ k ∈ deps oj, (L.setIfInBounds i true).getD k false = true := by
          intro j oj hoj hlj k hk
          rw [hget] at hlj ⊢
          split
          · rfl
          · next e =>
            by_cases ej : j = i
            · subst ej
              rw [ho] at hoj
              obtain rfl := Option.some.inj hoj
              exact hd k hk
            · rw [if_neg ej] at hlj
              exact hC j oj hoj hlj k hk
        have hn' : ∀ j, t ≤ j → (L.setIfInBounds i true).getD j false = false := by
          intro j hj
          rw [hget, if_neg (by omega)]
          exact hn j hj
        have hfin : ∀ (K : Value → World → Prop), wpList P ops (StoodH S K a sl u o w Q) [o] (putAll a sl u) w →
            (∀ v w', S w w' → K v w' → wpAny P .any ops Q fuel (L.setIfInBounds i true) (putAll a sl (upd u i v)) w') → wpOp P ops Q i (wpAny P .any ops Q fuel (L.setIfInBounds i true)) (putAll a sl u) w := by
          intro K h hK
          have hnext : ∀ a' w', StoodH S K a sl u o w Q .normal a' w' → wpAny P .any ops Q fuel (L.setIfInBounds i true) a' w' := by
            intro a' w' hq
            obtain ⟨v, rfl, hS, hv⟩ := hq
            rw [putAll_put hs ho]
            exact hK v w' hS hv
          unfold wpOp
          rw [ho]
          simp only [wpList] at h
          simp only
          split at h
          · next hw =>
            rw [if_pos hw]
            refine h.imp (wp_swap hnext (fun _ _ _ h => h) fun ⟨x, y, h⟩ => ⟨x, y, h⟩) fun ⟨h1, h2⟩ => ⟨h1, ?_⟩
            obtain ⟨x, y, h2⟩ := h2
            exact ⟨x, y, h2⟩
          · next hw => rw [if_neg hw]; exact hnext _ _ h
        by_cases hic : i ∈ ch
        · obtain ⟨q, hq, rfl⟩ := hof i hic
          have hqs : ¬ q < s := fun e => by
            have := (hcl q hq).2 e
            rw [hli'] at this; cases this
          have hqe : q = s := by
            apply Classical.byContradiction
            intro hne
            have h1 := ((hch q hq).1.2).resolve_left (by omega)
            rw [List.contains_iff_mem, ho] at h1
            have h2 := reach_listed hC _ _ hd _ h1
            have := (hcl (q - 1) (by omega)).1 h2
            omega
          subst hqe
          refine hfin _ (hchain q o hq ho u w hI fun j hj hj2 => hR j hj2 (hd j hj)) fun v w' hS hI' => ?_
          refine ih _ (n + 1) (q + 1) _ _ (by simpa using hsz) hcnt' (by omega) hn' (by omega) ?_ hI' hC' ?_
          · intro p hp
            rw [hget]
            by_cases e : p = q
            · subst e; simp
            · have hne : ch.getD p 0 ≠ ch.getD q 0 := by
                rcases Nat.lt_or_gt_of_ne e with hlt | hgt
                · exact (hch q hq).2 p hlt
                · exact fun e2 => (hch p hp).2 q hgt e2.symm
              rw [if_neg hne, hcl p hp]
              omega
          · intro j hj hlj
            rw [hget] at hlj
            have hne : j ≠ ch.getD q 0 := fun e => hj (e ▸ hic)
            rw [if_neg hne] at hlj
            simp only [upd, if_neg hne]
            exact hmono _ _ _ _ (hR j hj hlj) hS
        · refine hfin _ (hfloat i o ho hit hic s u w hI (fun j hj hj2 => hR j hj2 (hd j hj)) (fun q hq hqd => (hcl q hq).1 (hd _ hqd)) hsl (fun q o' hq ho' hdi => by
            have h1 := (hcl q (by omega)).2 hq
            have h2 := hC _ _ ho' h1 _ hdi
            rw [hli'] at h2; cases h2)) fun v w' hS hI' => ?_
          refine ih _ (n + 1) s _ _ (by simpa using hsz) hcnt' (by omega) hn' hsl ?_ hI'.1 hC' ?_
          · intro p hp
            have hne : ch.getD p 0 ≠ i := fun e => hic (e ▸ hmem p hp)
            rw [hget, if_neg hne, hcl p hp]
          · intro j hj hlj
            rw [hget] at hlj
            by_cases ej : j = i
            · subst ej; simpa [upd] using hI'.2
            · rw [if_neg ej] at hlj
              simp only [upd, if_neg ej]
              exact hmono _ _ _ _ (hR j hj hlj) hS
  refine wp_region_any hm ?_
  have hno : ∀ j, (Array.replicate ops.size false).getD j false = false := by
    intro j
    simp only [Array.getD_eq_getD_getElem?, Array.getElem?_replicate]
    split <;> rfl
  rw [putAll_self hs a]
  refine key _ _ 0 0 _ _ (by simp) ?_ (by omega) (fun j _ => hno j) (Nat.zero_le _) (fun q hq => by rw [hno]; simp) (h0 _) (fun j o _ h => by rw [hno] at h; cases h) (fun j _ h => by rw [hno] at h; cases h)
  rw [Array.toList_replicate, List.take_replicate, List.countP_replicate]
  simp
  omega
end Go.Proofs.Ytjeaeninpmaoiaa
/- A box, and two numbers, that are drawn from bytes; conditions: none. -/
namespace Go.Proofs.Ytjeaeninpmaoiaa
open Go.RowKit

/-- a chain of numbers drawn, and at last a block that is written -/
def JPk (cg K pb : Nat) (T : Obj) (W : World) (ps : List (Nat × Nat)) (s : Nat) (u : Nat → Value) (w : World) : Prop :=
  (KeptOff (fun k => k = cg ∨ k = pb) W w ∧ (s ≤ ps.length → KeptOff (fun k => k = cg) W w ∧ CurR w cg (K + 2 * s)) ∧ (ps.length < s → w.heap[pb]? = some T)) ∧
  ∀ q (h : q < ps.length), q < s → ∃ x : Nat, u (ps[q]).1 = .int .i64 (x : Int) ∧ x ≤ (ps[q]).2
theorem JPk.keep {cg K pb : Nat} {T : Obj} {W : World} {ps : List (Nat × Nat)} {s : Nat} {u : Nat → Value} {w : World} (h : JPk cg K pb T W ps s u w) (i : Nat) (hi : (ps.all fun p => p.1 != i) = true) (v : Value) : JPk cg K pb T W ps s (upd u i v) w := by
  refine ⟨h.1, fun q hq hs => ?_⟩
  obtain ⟨x, e, hx⟩ := h.2 q hq hs
  refine ⟨x, ?_, hx⟩
  have := List.all_eq_true.1 hi _ (List.getElem_mem hq)
  rw [show Proofs.Ytjeaeninpmaoiaa.upd u i v (ps[q]).1 = u (ps[q]).1 from if_neg fun e => by simp [e] at this]
  exact e
theorem JPk.pick {cg K pb : Nat} {T : Obj} {W : World} {ps : List (Nat × Nat)} {s : Nat} {u : Nat → Value} {w w' : World} (h : JPk cg K pb T W ps s u w) (hs : s < ps.length) (i : Nat) (hi : (ps[s]).1 = i) (hd : ((List.range s).all fun q => (ps.getD q (0, 0)).1 != i) = true)
    (x : Nat) (hx : x ≤ (ps[s]).2) (hk : KeptOff (fun k => k = cg) w w') (hc : CurR w' cg (K + 2 * s + 2)) : JPk cg K pb T W ps (s + 1) (upd u i (.int .i64 (x : Int))) w' := by
  obtain ⟨⟨h1, h2, h3⟩, h4⟩ := h
  have ha := (h2 (by omega)).1.trans hk
  refine ⟨⟨ha.mono fun k e => .inl e, fun _ => ⟨ha, hc.more (by omega)⟩, fun f => by omega⟩, fun q hq hqs => ?_⟩
  by_cases e : q = s
  · subst e
    refine ⟨x, ?_, hx⟩
    rw [hi]
    exact if_pos rfl
  · obtain ⟨y, e1, e2⟩ := h4 q hq (by omega)
    refine ⟨y, ?_, e2⟩
    have := List.all_eq_true.1 hd q (List.mem_range.2 (by omega))
    rw [List.getD_eq_getElem?_getD, List.getElem?_eq_getElem hq] at this
    rw [show Proofs.Ytjeaeninpmaoiaa.upd u i _ (ps[q]).1 = u (ps[q]).1 from if_neg fun e => by simp [e] at this]
    exact e1
theorem JPk.store {cg K pb : Nat} {T : Obj} {W : World} {ps : List (Nat × Nat)} {u : Nat → Value} {w w' : World} (h : JPk cg K pb T W ps ps.length u w) (i : Nat) (hi : (ps.all fun p => p.1 != i) = true) (v : Value) (hk : KeptOff (fun k => k = pb) w w') (hT : w'.heap[pb]? = some T) :
    JPk cg K pb T W ps (ps.length + 1) (Proofs.Ytjeaeninpmaoiaa.upd u i v) w' := by
  obtain ⟨⟨h1, h2, h3⟩, h4⟩ := h.keep i hi v
  refine ⟨⟨h1.trans (hk.mono fun k e => .inr e), fun f => by omega, fun _ => hT⟩, fun q hq hqs => h4 q hq (by omega)⟩
theorem kcell2 {w w' : World} {b j : Nat} {v : Value} {G : Nat → Prop} (hk : KeptOff G w w') (h : w.cell? ⟨b, j, none⟩ = some v) (hb : ¬ G b) : w'.cell? ⟨b, j, none⟩ = some v := by
  have hl := World.block_lt_of_cell? w _ h
  rw [← h]
  unfold World.cell?
  rw [hk.block b hl hb]
set_option maxRecDepth 100000 in
set_option maxHeartbeats 4000000 in
theorem c_DrawChainRight (v : Value) (m : Nat) (w : World) (h : BytesV w v m) :
    Calls Try.prog 38 #[v] w fun e w' => ∃ v' r i j, e = .returned (.tuple #[v', .int .i64 i, .int .i64 j]) ∧ BoxO w' w.heap.size v' r ∧ ((-1 ≤ i ∧ i ≤ 15) ∧ 0 ≤ j ∧ j ≤ 4) ∧ Below w.heap.size w w' := by
  have h0 := id h
  obtain ⟨ad, cap, rfl, hcap, hbr⟩ := h
  have hA0 := (Below.refl w.heap.size w).alloc (Nat.le_refl _) (.cells #[.int .i64 0, .int .i64 0, .int .i64 0, .slice none 0 0] 50)
  obtain ⟨w0, hw0⟩ : ∃ z, z = w.alloc (.cells #[.int .i64 0, .int .i64 0, .int .i64 0, .slice none 0 0] 50) := ⟨_, rfl⟩
  have hz0 : w0.heap.size = w.heap.size + 1 := by rw [hw0]; simp
  have p0 : w0.heap[w.heap.size]? = some (.cells #[.int .i64 0, .int .i64 0, .int .i64 0, .slice none 0 0] 50 (0, 0)) := by rw [hw0]; exact heap_alloc_at rfl
  rw [← hw0] at hA0
  have hcn := cur_new (cap := cap) (hbr.below hA0)
  have hAc := (Below.refl w0.heap.size w0).alloc (Nat.le_refl _) (.cells #[.slice ad m cap, .int .i64 0, .int .u64 0] 63)
  obtain ⟨wa, hwa⟩ : ∃ z, z = w0.alloc (.cells #[.slice ad m cap, .int .i64 0, .int .u64 0] 63) := ⟨_, rfl⟩
  have hza : wa.heap.size = w0.heap.size + 1 := by rw [hwa]; simp
  rw [← hwa] at hcn hAc
  replace p0 := blk_later hAc p0
  have hAA := bstep hA0 hAc
  obtain ⟨cg, hcg⟩ : ∃ z, z = w.heap.size + 1 := ⟨_, rfl⟩
  rw [hz0, ← hcg] at hcn
  go_enter Try.func38, Try.ntmps38
  go_wp2_with fail
  rw [← hw0, ← hwa, ← hcg]
  clear hw0 hwa
  have hq1 : w.heap.size < cg ∧ cg < wa.heap.size := by omega
  clear hcg hza hz0 hA0 hAc hbr
  refine (c_DrawBoxCode _ m _ (h0.below hAA)).mono ?_
  rintro e w2 ⟨v2, r2, rfl, hO2, hB2⟩
  obtain ⟨rx, ry, rw', n8, rs8, a8, c8, e8, hO⟩ := hO2.parts2
  subst e8
  replace p0 := blk_later hB2 p0
  replace hcn := hcn.below hB2
  have hB := bstep hAA hB2
  obtain ⟨hX, hA⟩ := boxX_new (x := rx) (y := ry) (n := rw') hO.inner hB2.size
  obtain ⟨gx, hgx⟩ : ∃ z, z = w2.heap.size := ⟨_, rfl⟩
  obtain ⟨w3, hw3⟩ : ∃ z, z = w2.alloc (.cells #[.int .i64 rx, .int .i64 ry, .int .i64 rw', .slice a8 n8 c8] 50) := ⟨_, rfl⟩
  rw [← hw3, ← hgx] at hX
  rw [← hw3] at hA
  go_upto_region 3 with fail
  rw [← hw3, ← hgx]
  replace hgx : cg < gx := by have := hB2.size; omega
  replace p0 := blk_later hA p0
  replace hcn := hcn.below hA
  replace hB := bstep hB hA
  clear hw3 hA hO hB2 hAA hO2 r2 h0
  have hz3 : w.heap.size < w3.heap.size := (Array.getElem?_eq_some_iff.1 p0).1
  obtain ⟨⟨x0, x1, x2, x3⟩, -⟩ := blk4 hX.box
  refine wp_region_chain (by kernel_rfl) [none, none, none, some 14, some 15, none, none, none, none, none, none, none, some 0, some 1, some 2, some 3, some 4, some 5, some 6, some 7, some 8, some 9, some 10, some 11, some 12] 15 (by kernel_rfl) (by kernel_rfl) (by kernel_rfl) (by simp) _ rfl [2, 4, 8, 10, 13] (by kernel_rfl) ((fun _ _ => True)) (fun i v w' => match i with | 0 => v = .agg #[.int .i64 rx, .int .i64 ry, .int .i64 rw', .slice a8 n8 c8] | 1 => v = .pointer (some ⟨cg, 0, none⟩) | 3 => v = .pointer (some ⟨cg, 0, none⟩) | 5 => (∃ z : Int, v = .int .i64 z ∧ 0 ≤ z ∧ z ≤ 1) | 6 => (∃ z : Int, v = .int .i64 z ∧ -1 ≤ z ∧ z ≤ 15) | 7 => v = .pointer (some ⟨cg, 0, none⟩) | 9 => v = .pointer (some ⟨cg, 0, none⟩) | 11 => (∃ z : Int, v = .int .i64 z ∧ 0 ≤ z ∧ z ≤ 1) | 12 => (∃ z : Int, v = .int .i64 z ∧ 0 ≤ z ∧ z ≤ 4) | 14 => (∃ z : Int, v = .int .i64 z ∧ -1 ≤ z ∧ z ≤ 15) | _ => True) (JPk cg 0 w.heap.size (.cells #[.int .i64 rx, .int .i64 ry, .int .i64 rw', .slice a8 n8 c8] 50) w3 [(2, 15), (4, 23), (8, 3), (10, 23)]) ?_ (fun u => ⟨⟨(kept0 ((Below.refl w3.heap.size w3).drew)).mono fun _ f => f.elim, fun _ => ⟨(kept0 ((Below.refl w3.heap.size w3).drew)).mono fun _ f => f.elim, hcn.below ((Below.refl _ _).drew)⟩, fun f => absurd f (by decide)⟩, fun q h f => absurd f (by omega)⟩) ?_ ?_ ?_
  · intro i v w1 w2 hR hS
    rcases i with _ | _ | _ | _ | _ | _ | _ | _ | _ | _ | _ | _ | _ | _ | _ | i
    · exact hR
    · exact hR
    · exact hR
    · exact hR
    · exact hR
    · exact hR
    · exact hR
    · exact hR
    · exact hR
    · exact hR
    · exact hR
    · exact hR
    · exact hR
    · exact hR
    · exact hR
    · exact hR
  · intro i o ho hi hic s u ww hI hd hq hs hnu
    rcases i with _ | _ | _ | _ | _ | _ | _ | _ | _ | _ | _ | _ | _ | _ | _ | i
    all_goals try obtain rfl := Option.some.inj ho
    all_goals try simp only [putAll, fillL]
    · have hkw := hI.1.1
      have x0 := kcell2 hkw x0 (by omega)
      have x1 := kcell2 hkw x1 (by omega)
      have x2 := kcell2 hkw x2 (by omega)
      have x3 := kcell2 hkw x3 (by omega)
      have hsw := hkw.size
      go_wp2
      exact ⟨_, rfl, trivial, hI.keep 0 (by decide) _, rfl⟩
    · have hkw := hI.1.1
      have x0 := kcell2 hkw x0 (by omega)
      have x1 := kcell2 hkw x1 (by omega)
      have x2 := kcell2 hkw x2 (by omega)
      have x3 := kcell2 hkw x3 (by omega)
      have hsw := hkw.size
      go_wp2
      exact ⟨_, rfl, trivial, hI.keep 1 (by decide) _, rfl⟩
    · exact absurd (by decide) hic
    · have hkw := hI.1.1
      have x0 := kcell2 hkw x0 (by omega)
      have x1 := kcell2 hkw x1 (by omega)
      have x2 := kcell2 hkw x2 (by omega)
      have x3 := kcell2 hkw x3 (by omega)
      have hsw := hkw.size
      go_wp2
      exact ⟨_, rfl, trivial, hI.keep 3 (by decide) _, rfl⟩
    · exact absurd (by decide) hic
    · have hkw := hI.1.1
      have x0 := kcell2 hkw x0 (by omega)
      have x1 := kcell2 hkw x1 (by omega)
      have x2 := kcell2 hkw x2 (by omega)
      have x3 := kcell2 hkw x3 (by omega)
      have hsw := hkw.size
      obtain ⟨y, e4, hy⟩ := hI.2 1 (by decide) (hq 1 (by decide) (by decide))
      replace e4 : u 4 = .int .i64 (y : Int) := e4
      replace hy : y ≤ 23 := hy
      rw [e4]
      go_wp2
      exact ⟨_, by simp only [putAll, fillL, e4] <;> rfl, trivial, hI.keep 5 (by decide) _, _, rfl, by omega, by omega⟩
    · have hkw := hI.1.1
      have x0 := kcell2 hkw x0 (by omega)
      have x1 := kcell2 hkw x1 (by omega)
      have x2 := kcell2 hkw x2 (by omega)
      have x3 := kcell2 hkw x3 (by omega)
      have hsw := hkw.size
      obtain ⟨x, e2, hx⟩ := hI.2 0 (by decide) (hq 0 (by decide) (by decide))
      replace e2 : u 2 = .int .i64 (x : Int) := e2
      replace hx : x ≤ 15 := hx
      obtain ⟨z, e5, hz0, hz1⟩ : ∃ z : Int, u 5 = .int .i64 z ∧ 0 ≤ z ∧ z ≤ 1 := hd 5 (by decide) (by decide)
      rw [e2, e5]
      go_wp2
      exact ⟨_, by simp only [putAll, fillL, e2, e5] <;> rfl, trivial, hI.keep 6 (by decide) _, _, rfl, by omega, by omega⟩
    · have hkw := hI.1.1
      have x0 := kcell2 hkw x0 (by omega)
      have x1 := kcell2 hkw x1 (by omega)
      have x2 := kcell2 hkw x2 (by omega)
      have x3 := kcell2 hkw x3 (by omega)
      have hsw := hkw.size
      go_wp2
      exact ⟨_, rfl, trivial, hI.keep 7 (by decide) _, rfl⟩
    · exact absurd (by decide) hic
    · have hkw := hI.1.1
      have x0 := kcell2 hkw x0 (by omega)
      have x1 := kcell2 hkw x1 (by omega)
      have x2 := kcell2 hkw x2 (by omega)
      have x3 := kcell2 hkw x3 (by omega)
      have hsw := hkw.size
      go_wp2
      exact ⟨_, rfl, trivial, hI.keep 9 (by decide) _, rfl⟩
    · exact absurd (by decide) hic
    · have hkw := hI.1.1
      have x0 := kcell2 hkw x0 (by omega)
      have x1 := kcell2 hkw x1 (by omega)
      have x2 := kcell2 hkw x2 (by omega)
      have x3 := kcell2 hkw x3 (by omega)
      have hsw := hkw.size
      obtain ⟨y, e10, hy⟩ := hI.2 3 (by decide) (hq 3 (by decide) (by decide))
      replace e10 : u 10 = .int .i64 (y : Int) := e10
      replace hy : y ≤ 23 := hy
      rw [e10]
      go_wp2
      exact ⟨_, by simp only [putAll, fillL, e10] <;> rfl, trivial, hI.keep 11 (by decide) _, _, rfl, by omega, by omega⟩
    · have hkw := hI.1.1
      have x0 := kcell2 hkw x0 (by omega)
      have x1 := kcell2 hkw x1 (by omega)
      have x2 := kcell2 hkw x2 (by omega)
      have x3 := kcell2 hkw x3 (by omega)
      have hsw := hkw.size
      obtain ⟨x, e8, hx⟩ := hI.2 2 (by decide) (hq 2 (by decide) (by decide))
      replace e8 : u 8 = .int .i64 (x : Int) := e8
      replace hx : x ≤ 3 := hx
      obtain ⟨z, e11, hz0, hz1⟩ : ∃ z : Int, u 11 = .int .i64 z ∧ 0 ≤ z ∧ z ≤ 1 := hd 11 (by decide) (by decide)
      rw [e8, e11]
      go_wp2
      exact ⟨_, by simp only [putAll, fillL, e8, e11] <;> rfl, trivial, hI.keep 12 (by decide) _, _, rfl, by omega, by omega⟩
    · exact absurd (by decide) hic
    · have hkw := hI.1.1
      have x0 := kcell2 hkw x0 (by omega)
      have x1 := kcell2 hkw x1 (by omega)
      have x2 := kcell2 hkw x2 (by omega)
      have x3 := kcell2 hkw x3 (by omega)
      have hsw := hkw.size
      obtain ⟨z, e6, hz0, hz1⟩ : ∃ z : Int, u 6 = .int .i64 z ∧ -1 ≤ z ∧ z ≤ 15 := hd 6 (by decide) (by decide)
      rw [e6]
      go_wp2
      exact ⟨_, by simp only [putAll, fillL, e6] <;> rfl, trivial, hI.keep 14 (by decide) _, _, rfl, hz0, hz1⟩
    · omega
  · intro s o hs ho u ww hI hd
    rcases s with _ | _ | _ | _ | _ | s
    all_goals try obtain rfl := Option.some.inj ho
    all_goals try simp only [putAll, fillL]
    · have e1 : u 1 = .pointer (some ⟨cg, 0, none⟩) := hd 1 (by decide) (by decide)
      rw [e1]
      have hkw := hI.1.1
      have x0 := kcell2 hkw x0 (by omega)
      have x1 := kcell2 hkw x1 (by omega)
      have x2 := kcell2 hkw x2 (by omega)
      have x3 := kcell2 hkw x3 (by omega)
      have hsw := hkw.size
      obtain ⟨hk, hcw⟩ := hI.1.2.1 (by decide)
      go_wp2_with fail
      refine (c_pick cg _ 16 _ hcw (by omega) (by omega)).mono ?_
      rintro e wn ⟨x, rfl, hx, hcn, hkn⟩
      go_wp2
      exact ⟨_, by simp only [putAll, fillL, e1] <;> rfl, trivial, hI.pick (by decide) _ rfl (by decide) x (show x ≤ 15 by omega) hkn hcn⟩
    · have e3 : u 3 = .pointer (some ⟨cg, 0, none⟩) := hd 3 (by decide) (by decide)
      rw [e3]
      have hkw := hI.1.1
      have x0 := kcell2 hkw x0 (by omega)
      have x1 := kcell2 hkw x1 (by omega)
      have x2 := kcell2 hkw x2 (by omega)
      have x3 := kcell2 hkw x3 (by omega)
      have hsw := hkw.size
      obtain ⟨hk, hcw⟩ := hI.1.2.1 (by decide)
      go_wp2_with fail
      refine (c_pick cg _ 24 _ hcw (by omega) (by omega)).mono ?_
      rintro e wn ⟨x, rfl, hx, hcn, hkn⟩
      go_wp2
      exact ⟨_, by simp only [putAll, fillL, e3] <;> rfl, trivial, hI.pick (by decide) _ rfl (by decide) x (show x ≤ 23 by omega) hkn hcn⟩
    · have e7 : u 7 = .pointer (some ⟨cg, 0, none⟩) := hd 7 (by decide) (by decide)
      rw [e7]
      have hkw := hI.1.1
      have x0 := kcell2 hkw x0 (by omega)
      have x1 := kcell2 hkw x1 (by omega)
      have x2 := kcell2 hkw x2 (by omega)
      have x3 := kcell2 hkw x3 (by omega)
      have hsw := hkw.size
      obtain ⟨hk, hcw⟩ := hI.1.2.1 (by decide)
      go_wp2_with fail
      refine (c_pick cg _ 4 _ hcw (by omega) (by omega)).mono ?_
      rintro e wn ⟨x, rfl, hx, hcn, hkn⟩
      go_wp2
      exact ⟨_, by simp only [putAll, fillL, e7] <;> rfl, trivial, hI.pick (by decide) _ rfl (by decide) x (show x ≤ 3 by omega) hkn hcn⟩
    · have e9 : u 9 = .pointer (some ⟨cg, 0, none⟩) := hd 9 (by decide) (by decide)
      rw [e9]
      have hkw := hI.1.1
      have x0 := kcell2 hkw x0 (by omega)
      have x1 := kcell2 hkw x1 (by omega)
      have x2 := kcell2 hkw x2 (by omega)
      have x3 := kcell2 hkw x3 (by omega)
      have hsw := hkw.size
      obtain ⟨hk, hcw⟩ := hI.1.2.1 (by decide)
      go_wp2_with fail
      refine (c_pick cg _ 24 _ hcw (by omega) (by omega)).mono ?_
      rintro e wn ⟨x, rfl, hx, hcn, hkn⟩
      go_wp2
      exact ⟨_, by simp only [putAll, fillL, e9] <;> rfl, trivial, hI.pick (by decide) _ rfl (by decide) x (show x ≤ 23 by omega) hkn hcn⟩
    · have e0 : u 0 = .agg #[.int .i64 rx, .int .i64 ry, .int .i64 rw', .slice a8 n8 c8] := hd 0 (by decide) (by decide)
      rw [e0]
      have hkw := hI.1.1
      have x0 := kcell2 hkw x0 (by omega)
      have x1 := kcell2 hkw x1 (by omega)
      have x2 := kcell2 hkw x2 (by omega)
      have x3 := kcell2 hkw x3 (by omega)
      have hsw := hkw.size
      obtain ⟨hk, -⟩ := hI.1.2.1 (by decide)
      have pw := (hk.block w.heap.size (by omega) (by omega)).trans p0
      obtain ⟨⟨c0, c1, c2, c3⟩, g0, g1, g2, g3⟩ := blk4 pw
      obtain ⟨-, pv, hk4⟩ := storedB pw (.int .i64 rx) (.int .i64 ry) (.int .i64 rw') (.slice a8 n8 c8)
      have hgo := Lib.hid (hI.store 13 (by decide) undef hk4 pv)
      clear hk4 pv pw hk hI
      go_wp2
      exact ⟨undef, by simp only [putAll, fillL, e0] <;> rfl, trivial, hgo.out⟩
    · first | omega | (simp at hs <;> omega)
  · intro u w4 hI hV
    simp only [putAll, fillL]
    try simp only [List.getElem_toArray, List.getElem_cons_succ, List.getElem_cons_zero]
    change wpList _ _ _ [_] _ _
    have hk4 := hI.1.1
    have pz := hI.1.2.2 (by decide)
    obtain ⟨z, e12, hz0, hz1⟩ : ∃ z : Int, u 12 = .int .i64 z ∧ 0 ≤ z ∧ z ≤ 4 := hV 12 (by decide) (by decide)
    obtain ⟨y, e14, hy0, hy1⟩ : ∃ z : Int, u 14 = .int .i64 z ∧ -1 ≤ z ∧ z ≤ 15 := hV 14 (by decide) (by decide)
    rw [e12, e14]
    clear hV e12 e14 hI
    obtain ⟨⟨q0, q1, q2, q3⟩, -⟩ := blk4 pz
    replace q0 := Lib.hid q0
    replace q1 := Lib.hid q1
    replace q2 := Lib.hid q2
    replace q3 := Lib.hid q3
    have hfin := Lib.hid (And.intro ((BoxO.off (r := ⟨rx, ry, rw', rs8⟩) hX.o hk4 fun k e => by omega).mono (show w.heap.size ≤ wa.heap.size by omega)) (And.intro (And.intro (And.intro hy0 hy1) (And.intro hz0 hz1)) (hB.trans (hk4.below (B := w.heap.size) (fun k e => by omega) (by omega)))))
    clear hX hk4 pz p0 x0 x1 x2 x3 hB hcn hy0 hy1 hz0 hz1
    go_wp2
    refine bodyPost_ret (v := .tuple #[.agg #[.int .i64 rx, .int .i64 ry, .int .i64 rw', .slice a8 n8 c8], .int .i64 y, .int .i64 z]) (by simp [results, Try.results38, go_sem, q0.out, q1.out, q2.out, q3.out]) rfl (by first | exact ⟨_, _, _, _, rfl, hfin.out.1, hfin.out.2⟩ | exact ⟨_, _, _, rfl, ⟨_, hfin.out.1⟩, hfin.out.2⟩ | exact ⟨_, _, _, ⟨rfl, rfl, rfl⟩, ⟨_, hfin.out.1⟩, hfin.out.2⟩)
end Go.Proofs.Ytjeaeninpmaoiaa
/- Boxes in blocks of their own, and what the law on boxes' codes needs of its numbers; conditions: none. -/
namespace Go.Proofs.Ytjeaeninpmaoiaa
open Go.RowKit

/-- a box that lies in a block -/
def BoxM (w : World) (g : Nat) (r : BoxD) : Prop := ∃ a k, w.heap[g]? = some (.cells #[.int .i64 r.x, .int .i64 r.y, .int .i64 r.w, .slice a r.r.length k] 50 (0, 0)) ∧ BoxR w (.agg #[.int .i64 r.x, .int .i64 r.y, .int .i64 r.w, .slice a r.r.length k]) r
theorem BoxM.below {w w' : World} {g : Nat} {r : BoxD} (h : BoxM w g r) (hb : Below w.heap.size w w') : BoxM w' g r := by
  obtain ⟨a, k, p, hr⟩ := h
  exact ⟨a, k, blk_later hb p, hr.below hb⟩
theorem BoxM.new {w : World} {a : Option Addr} {k : Nat} {r : BoxD} (h : BoxR w (.agg #[.int .i64 r.x, .int .i64 r.y, .int .i64 r.w, .slice a r.r.length k]) r) :
    BoxM (w.alloc (.cells #[.int .i64 r.x, .int .i64 r.y, .int .i64 r.w, .slice a r.r.length k] 50)) w.heap.size r ∧ Below w.heap.size w (w.alloc (.cells #[.int .i64 r.x, .int .i64 r.y, .int .i64 r.w, .slice a r.r.length k] 50)) := by
  have hA := (Below.refl w.heap.size w).alloc (Nat.le_refl _) (.cells #[.int .i64 r.x, .int .i64 r.y, .int .i64 r.w, .slice a r.r.length k] 50)
  exact ⟨⟨a, k, heap_alloc_at rfl, h.below hA⟩, hA⟩
theorem BoxM.open {w : World} {g : Nat} {r : BoxD} (h : BoxM w g r) : ∃ a k, w.cell? ⟨g, 0, none⟩ = some (.int .i64 r.x) ∧ w.cell? ⟨g, 1, none⟩ = some (.int .i64 r.y) ∧ w.cell? ⟨g, 2, none⟩ = some (.int .i64 r.w) ∧ w.cell? ⟨g, 3, none⟩ = some (.slice a r.r.length k) ∧ BoxR w (.agg #[.int .i64 r.x, .int .i64 r.y, .int .i64 r.w, .slice a r.r.length k]) r := by
  obtain ⟨a, k, p, hr⟩ := h
  obtain ⟨⟨z0, z1, z2, z3⟩, -⟩ := blk4 p
  exact ⟨a, k, z0, z1, z2, z3, hr⟩
theorem sl_blk {w : World} {b : Nat} {cs : Array Value} {us : List Value} {t : TypeId} (h : w.heap[b]? = some (.cells cs t (0, 0))) (hcs : cs.toList = us) (hl : us.length ≤ 1000000) : Sl w (.slice (some ⟨b, 0, none⟩) us.length us.length) us := by
  refine ⟨some ⟨b, 0, none⟩, us.length, rfl, by omega, fun j u hu => ⟨b, 0, rfl, (Array.getElem?_eq_some_iff.1 h).1, ?_⟩⟩
  subst hcs
  simp [World.cell?, h]
  simpa using hu
theorem ints_blk {w : World} {b : Nat} {cs : Array Value} {xs : List Int} {t : TypeId} (h : w.heap[b]? = some (.cells cs t (0, 0))) (hcs : cs.toList = xs.map (.int .i64)) (hl : xs.length ≤ 1000000) : Ints w (.slice (some ⟨b, 0, none⟩) xs.length xs.length) xs := by
  have := sl_blk h hcs (by simpa using hl)
  simpa [Ints] using this
theorem box_facts {b : BoxD} (h : pairB b = true) : (boxCodeL b).length = 8 ∧ (boxCodeL b).sum = 4 * b.w + sumB b 3 ∧ (∀ x ∈ boxCodeL b, 0 ≤ x ∧ x ≤ b.w) ∧ (1 ≤ b.w ∧ b.w ≤ 1000) ∧ -4000 ≤ sumB b 3 ∧ sumB b 3 ≤ 4000 ∧ (grB b ≤ 2 * b.w → (boxCodeL b).sum ≤ 6 * b.w) := by
  obtain ⟨h1, h2, h3⟩ := code_sum h
  have hw := (pair_row h 0 (by decide)).2.2
  have hag : ∀ q, q < 4 → -1000 ≤ agV b q ∧ agV b q ≤ 1000 := fun q hq => by
    obtain ⟨c, s, -⟩ := pair_row h q hq
    have := c 0; have := c 1; have := c 2; have := c 3
    unfold agV
    omega
  have g0 := hag 0 (by decide)
  have g1 := hag 1 (by decide)
  have g2 := hag 2 (by decide)
  have g3 := hag 3 (by decide)
  refine ⟨h2, h1, h3, hw, ?_, ?_, local_sum h⟩
  · simp only [sumB]; simp; omega
  · simp only [sumB]; simp; omega
theorem chain_facts {c : BoxD} {k i : Int} (h : crB c k i = true) : clB c = true ∧ clV c ≤ crV c k i ∧ crV c k i ≤ c.w * c.w * c.w ∧ 1 ≤ c.w ∧ c.w ≤ 100 := by
  have h0 := h
  unfold crB at h
  simp only [Bool.and_eq_true, inB_iff] at h
  obtain ⟨hc, ⟨k0, k1⟩, i0, i1⟩ := h
  have hcc := hc
  unfold chainB at hcc
  simp only [Bool.and_eq_true, decide_eq_true_eq] at hcc
  have hw := (pair_row hcc.1 0 (by decide)).2.2
  unfold crV
  rw [if_pos h0]
  exact ⟨hc, least_right hc (by omega) (by omega), right_le hc (by omega), hw.1, hcc.2.2⟩
end Go.Proofs.Ytjeaeninpmaoiaa
/- What the big laws use: equal lists, sums; conditions: none. -/
namespace Go.Proofs.Ytjeaeninpmaoiaa
open Go.RowKit

theorem c_vInts_same (v u : Value) (xs : List Int) (w : World) (h : Ints w v xs) (g : Ints w u xs) :
    Calls Try.prog 17 #[v, u] w fun e w' => e = .returned (.bool true) ∧ Below w.heap.size w w' := by
  obtain ⟨ad, cap, rfl, hl, -⟩ := h.out
  obtain ⟨ad', cap', rfl, hl', -⟩ := g.out
  go_enter Try.func17, Try.ntmps17
  go_wp2
  go_loopw [5] (fun i wr => ∃ k : Nat, k ≤ xs.length ∧ i = .int .i64 k ∧ Hid (∃ m, wr = w.drewN m)) (fun i _ => xs.length - (intOf i).toNat)
  case atStart => exact ⟨0, Nat.zero_le _, rfl, 0, rfl⟩
  case round =>
    obtain ⟨k, hk, rfl, hB⟩ := hrel
    obtain ⟨m, rfl⟩ := hB.out
    clear hB
    by_cases hlt : k < xs.length
    · have hd : decide ((k : Int) < (xs.length : Int)) = true := by simp; omega
      obtain ⟨bl, off, rfl, hb, hcell⟩ := h.at k hlt
      obtain ⟨bl', off', rfl, hb', hcell'⟩ := g.at k hlt
      go_wp2
      go_quiet (fail)
      all_goals go_wp2
      all_goals go_roundw
      case rel => exact ⟨k + 1, by omega, by go_num, Lib.hid ⟨_, rfl⟩⟩
      case measure => simp [intOf]; omega
    · obtain rfl : k = xs.length := by omega
      go_wp2
      go_ret
      exact ⟨rfl, below_drewN (Below.refl _ _) _⟩

theorem cells_i : Try.prog.cellsOf 3 = 1 := by kernel_rfl
theorem neq_pairs (a b : Int) (w : World) : (binOp .neq 48 (.agg #[.int .i64 a, .int .i64 b]) (.agg #[.int .i64 a, .int .i64 b])).run Try.prog w = .ok (.bool false) w := by
  obtain ⟨i0, hi, hz0, hz1, hz2⟩ := info_parts info_int
  rw [run_neq_struct, show (10000 : Nat) = 9999 + 1 from rfl, run_equalIn_array w 9999 _ _ Try.underlying48 hi, cells_i]
  have e := fun (x : Int) (w : World) => run_equalIn_int (P := Try.prog) w 9998 3 .i64 .i64 x x Try.underlying3
  simp only [List.range_succ, List.range_zero, List.nil_append, List.cons_append, Op.eqItems]
  simp [part, e]
theorem c_vPairs_same (v u : Value) (ps : List (Int × Int)) (w : World) (h : Pairs w v ps) (g : Pairs w u ps) :
    Calls Try.prog 32 #[v, u] w fun e w' => e = .returned (.bool true) ∧ Below w.heap.size w w' := by
  obtain ⟨ad, cap, rfl, hl⟩ := h.out
  obtain ⟨ad2, cap2, rfl, hl'⟩ := g.out
  have hnq := neq_pairs
  go_enter Try.func32, Try.ntmps32
  go_wp2
  go_loopw [5] (fun i wr => ∃ k : Nat, k ≤ ps.length ∧ i = .int .i64 k ∧ Below w.heap.size w wr) (fun i _ => ps.length - (intOf i).toNat)
  case atStart => exact ⟨0, Nat.zero_le _, rfl, Below.refl _ _⟩
  case round =>
    obtain ⟨k, hk, rfl, hB⟩ := hrel
    by_cases hlt : k < ps.length
    · have hd : decide ((k : Int) < (ps.length : Int)) = true := by simp; omega
      obtain ⟨bl, off, rfl, hb, hcell, hcell2⟩ := (h.below hB).at k hlt
      obtain ⟨bl2, off2, rfl, hb2, hcell3, hcell4⟩ := (g.below hB).at k hlt
      obtain ⟨wo, rfl⟩ : ∃ wo : World, wo = wr := ⟨_, rfl⟩
      go_wp2_with fail
      refine wp_region_rk (by kernel_rfl) [none, none, none, none, none, none, none, none, none, none, none, none, none, none, none, none, none, some 0, some 1, some 2, some 3, some 4, some 5, some 6, some 7, some 8] 8 (by kernel_rfl) (by kernel_rfl) (by kernel_rfl) _ rfl wo.heap.size [rkV (.slice (some ⟨bl, off, none⟩) ps.length cap), rkV (.int .i64 k), rkV (.pointer (some ⟨bl, off + k * 2, none⟩)), rkV (.agg #[.int .i64 ps[k].1, .int .i64 ps[k].2]), rkV (.slice (some ⟨bl2, off2, none⟩) ps.length cap2), rkV (.int .i64 k), rkV (.pointer (some ⟨bl2, off2 + k * 2, none⟩)), rkV (.agg #[.int .i64 ps[k].1, .int .i64 ps[k].2])] _ rfl (by kernel_rfl) (by simp) ?_ ?_
      · intro i o ho hi u g ww hbw hd
        have hall : Below wo.heap.size wo ww := hbw
        have hlow : wo.heap.size ≤ ww.heap.size := hall.size
        obtain ⟨hcl, hfr⟩ := bcell hbw
        have y_hcell := (hcl _ _ (by omega)).trans hcell
        have y_hcell2 := (hcl _ _ (by omega)).trans hcell2
        have y_hcell3 := (hcl _ _ (by omega)).trans hcell3
        have y_hcell4 := (hcl _ _ (by omega)).trans hcell4
        clear hcl hfr
        rcases i with _ | _ | _ | _ | _ | _ | _ | _ | _ | i
        all_goals try obtain rfl := Option.some.inj ho
        all_goals try simp only [putAll, fillL]
        · go_wp2
          exact ⟨_, rfl, kept0 (Below.refl _ _), rfl⟩
        · go_wp2
          exact ⟨_, rfl, kept0 (Below.refl _ _), rfl⟩
        · have e0 : u 0 = .slice (some ⟨bl, off, none⟩) ps.length cap := hd 0 (by decide)
          rw [e0]
          have e1 : u 1 = .int .i64 k := hd 1 (by decide)
          rw [e1]
          go_wp2
          exact ⟨_, by simp only [putAll, fillL, e0, e1] <;> rfl, kept0 (Below.refl _ _), rfl⟩
        · have e2 : u 2 = .pointer (some ⟨bl, off + k * 2, none⟩) := hd 2 (by decide)
          rw [e2]
          go_wp2
          exact ⟨_, by simp only [putAll, fillL, e2] <;> rfl, kept0 (Below.refl _ _), rfl⟩
        · go_wp2
          exact ⟨_, rfl, kept0 (Below.refl _ _), rfl⟩
        · go_wp2
          exact ⟨_, rfl, kept0 (Below.refl _ _), rfl⟩
        · have e4 : u 4 = .slice (some ⟨bl2, off2, none⟩) ps.length cap2 := hd 4 (by decide)
          rw [e4]
          have e5 : u 5 = .int .i64 k := hd 5 (by decide)
          rw [e5]
          go_wp2
          exact ⟨_, by simp only [putAll, fillL, e4, e5] <;> rfl, kept0 (Below.refl _ _), rfl⟩
        · have e6 : u 6 = .pointer (some ⟨bl2, off2 + k * 2, none⟩) := hd 6 (by decide)
          rw [e6]
          go_wp2
          exact ⟨_, by simp only [putAll, fillL, e6] <;> rfl, kept0 (Below.refl _ _), rfl⟩
        · exact absurd rfl hi
        · simp at ho
      · intro u g' w3 hbw hR hAp
        have e3 : u 3 = .agg #[.int .i64 ps[k].1, .int .i64 ps[k].2] := hR 3 (by decide) (by decide)
        have e7 : u 7 = .agg #[.int .i64 ps[k].1, .int .i64 ps[k].2] := hR 7 (by decide) (by decide)
        simp only [putAll, fillL]
        rw [e3, e7]
        clear hR hAp e3 e7
        replace hB := bstep hB hbw
        go_wp2
        go_roundw
        case rel => exact ⟨k + 1, by omega, by go_num, hB⟩
        case measure => simp [intOf]; omega
    · obtain rfl : k = ps.length := by omega
      go_wp2
      go_ret
      exact ⟨rfl, hB⟩

theorem sum_bound (xs : List Int) (h : ∀ x ∈ xs, -1000000 ≤ x ∧ x ≤ 1000000) : -1000000 * (xs.length : Int) ≤ xs.sum ∧ xs.sum ≤ 1000000 * xs.length := by
  induction xs with
  | nil => simp
  | cons x xs ih =>
    have a := h x (by simp)
    have b := ih fun y hy => h y (by simp [hy])
    simp only [List.sum_cons, List.length_cons]
    omega
theorem c_vAdd (v : Value) (xs : List Int) (w : World) (h : Ints w v xs) (hb : ∀ x ∈ xs, -1000000 ≤ x ∧ x ≤ 1000000) (hl1 : xs.length ≤ 1000000) :
    Calls Try.prog 21 #[v] w fun e w' => e = .returned (.int .i64 xs.sum) ∧ w = w' := by
  obtain ⟨ad, cap, rfl, hl, -⟩ := h.out
  go_enter Try.func21, Try.ntmps21
  go_wp2
  go_loopw [3, 4] (fun n i wr => ∃ k : Nat, k ≤ xs.length ∧ i = .int .i64 k ∧ n = .int .i64 (xs.take k).sum ∧ wr = w) (fun _ i _ => xs.length - (intOf i).toNat)
  case atStart => exact ⟨0, Nat.zero_le _, rfl, by simp, rfl⟩
  case round =>
    obtain ⟨k, hk, rfl, rfl, hw⟩ := hrel
    subst hw
    by_cases hlt : k < xs.length
    · have hd : decide ((k : Int) < (xs.length : Int)) = true := by simp; omega
      obtain ⟨bl, off, rfl, hbl, hcell⟩ := h.at k hlt
      have s1 := sum_bound (xs.take k) fun x hx => hb x (List.mem_of_mem_take hx)
      have s2 := hb _ (List.getElem_mem hlt)
      have hlen : (xs.take k).length = k := by simp; omega
      rw [hlen] at s1
      have hs : (xs.take (k + 1)).sum = (xs.take k).sum + xs[k] := by rw [List.take_succ_eq_append_getElem hlt, List.sum_append]; simp
      obtain ⟨a, ha⟩ : ∃ a, a = (xs.take k).sum := ⟨_, rfl⟩
      obtain ⟨b, hb2⟩ : ∃ b, b = xs[k] := ⟨_, rfl⟩
      rw [← ha, ← hb2] at hs
      rw [← ha] at s1 ⊢
      rw [← hb2] at s2 hcell
      replace hs := Lib.hid hs
      replace ha := Lib.hid ha
      replace hb2 := Lib.hid hb2
      go_wp2
      go_roundw
      case rel => first | exact ⟨k + 1, by omega, by go_num, by rw [hs.out], by first | rfl | trivial⟩ | ((repeat apply Exists.intro); exact ⟨⟨k + 1, by omega, rfl, by rw [hs.out], by first | rfl | trivial⟩, rfl⟩)
      case measure => simp [intOf]; omega
    · obtain rfl : k = xs.length := by omega
      rw [List.take_length]
      go_wp2
      go_ret
      exact ⟨rfl, rfl⟩
end Go.Proofs.Ytjeaeninpmaoiaa
