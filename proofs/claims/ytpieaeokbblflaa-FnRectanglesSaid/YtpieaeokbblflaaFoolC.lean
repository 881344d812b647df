/- The closure of FoolingSet of the program; conditions: none. -/
import Derived.Test.YtpieaeokbblflaaFoolI
import Derived.Test.YtpieaeokbblflaaFree
namespace Go.Proofs.Ytpieaeokbblflaa
open Go.RowKit

theorem blk1 {w : World} {b : Nat} {v1 : Value} {t : TypeId} (h : w.heap[b]? = some (.cells #[v1] t (0, 0))) : w.cell? ⟨b, 0, none⟩ = some v1 ∧ w.frozen? ⟨b, 0, none⟩ = false := by
  refine ⟨?_, ?_⟩ <;> simp [World.cell?, World.frozen?, h]
/-- a region that draws its order: what each operation leaves, by any law that stays true in later worlds -/
theorem wp_region_gen {P : Program} {ops : Array Oper} {Q : Exit → Act → World → Prop} {a : Act} {w0 : World} {id : Nat} (hm : P.follows .mixedOrders = true)
    (sl : List (Option Nat)) (last : Nat) (hs : slotsB ops sl = true) (hlast : lastB ops last = true) (hord : orderB ops = true) (ol : Oper) (hol : ops[last]? = some ol)
    (H : Nat → Value → Nat × Nat → World → Prop) (hbel : ∀ i v x w w', H i v x w → Below w.heap.size w w' → H i v x w')
    (hstep : ∀ i o, ops[i]? = some o → i ≠ last → ∀ (u : Nat → Value) (g : Nat → Nat × Nat) w, Below w0.heap.size w0 w → (∀ j ∈ deps o, H j (u j) (g j) w) →
      wpList P ops (Stood3 (fun _ _ => False) a sl (fun i v x _ _ w => H i v x w) u g i o w Q) [o] (putAll a sl u) w)
    (hend : ∀ (u : Nat → Value) (g : Nat → Nat × Nat) w, Below w0.heap.size w0 w → (∀ j, j < ops.size → j ≠ last → H j (u j) (g j) w) → wpList P ops Q [ol] (putAll a sl u) w) :
    (Code.region id ops true).wp P Q a w0 := by
  have kb : ∀ {F : Nat → Prop} {a b : World}, KeptOff F a b → (∀ k, ¬ F k) → Below a.heap.size a b := fun h hf => h.below (fun k hk => absurd hk (hf k)) (Nat.le_refl _)
  exact wp_region_free3 hm sl last hs hlast hord ol hol (fun _ _ => False) (fun i v x _ _ w => H i v x w)
    (fun i j v x u g w w' _ h hk => hbel i v x w w' h (kb hk fun _ h => h)) (fun i v x u u' g g' w _ h => h) (fun i o ho hi u g w hb hd _ => hstep i o ho hi u g w (kb hb fun _ ⟨_, _, _, h⟩ => h) hd) (fun u g w hb hR _ => hend u g w (kb hb fun _ ⟨_, _, h⟩ => h) hR)

theorem kept00 {w w' : World} (h : Below w.heap.size w w') : KeptOff (fun _ => False) w w' := ⟨h.os, h.tape, h.output, h.size, fun k hk _ => h.block k hk⟩
theorem keptB {b : Nat} {w w' : World} (h : Below w.heap.size w w') : KeptOff (fun k => k = b) w w' := ⟨h.os, h.tape, h.output, h.size, fun k hk _ => h.block k hk⟩

theorem blk2P {w : World} {b : Nat} {v1 v2 : Value} {t : TypeId} (h : w.heap[b]? = some (.cells #[v1, v2] t (0, 0))) :
    w.cell? ⟨b, 0, none⟩ = some v1 ∧ w.cell? ⟨b, 1, none⟩ = some v2 ∧ w.frozen? ⟨b, 0, none⟩ = false ∧ w.frozen? ⟨b, 1, none⟩ = false := by
  refine ⟨?_, ?_, ?_, ?_⟩ <;> simp [World.cell?, World.frozen?, h]
/-- append(list[:len:len], pair) -/
theorem wp_append_full {ops : Array Oper} {rest : List Oper} {o : Oper} {a : Act} {Q : Exit → Act → World → Prop} (w : World) (hgd : o.guard = none) (s e : Operand)
    (ho : o.op = .call { callee := .builtin .append, args := #[s, e], argTypes := #[36, 36] }) (ao : Option Addr) (n c0 : Nat) (ps : List (Int × Int)) (hs : a.eval s = .slice ao n n) (hn : n = ps.length) (hy : Pairs w (.slice ao n c0) ps)
    (x y : Int) (g0 : Nat) (hx : a.eval e = .slice (some ⟨g0, 0, none⟩) 1 1) (hg : w.heap[g0]? = some (.cells #[.int .i64 x, .int .i64 y] 76 (0, 0))) (hl : ps.length ≤ 1000)
    (h : ∀ v' w', OwnPr w' w.heap.size v' (ps ++ [(x, y)]) → Below w.heap.size w w' → wpList Try.prog ops Q rest (a.put o.dst v') w') :
    wpList Try.prog ops Q (o :: rest) a w := by
  obtain ⟨i0, hi, hz0, hz1, hz2⟩ := info_parts info_pair
  obtain ⟨a', cap', e', hl', hc⟩ := hy
  cases e'
  refine wpList_append_grows w hgd s e 36 ho 76 i0 _ 2 16 Try.underlying36 hi hz0 hz1 hz2 rfl (by decide) ao ps.length ps.length ((flat ps).map (Value.int .i64)) (by rw [hs]) ?_ (by rw [List.length_map, flat_len]; omega) ?_ ⟨g0, 0, none⟩ 1 1 [.int .i64 x, .int .i64 y] hx rfl ?_ ?_
    (by omega) (by unfold maxLen; omega) (by omega) fun v' w' h1 h2 => ?_
  · intro hnone
    subst hnone
    by_cases h0 : 0 < (flat ps).length
    · obtain ⟨b, off, e, -⟩ := hc 0 h0
      cases e
    · rw [flat_len] at h0; omega
  · intro b hb j u hu
    simp only [List.getElem?_map, Option.map_eq_some_iff] at hu
    obtain ⟨z, hz, rfl⟩ := hu
    obtain ⟨hj, rfl⟩ := List.getElem?_eq_some_iff.1 hz
    obtain ⟨b', off', e, -, hcell⟩ := hc j hj
    rw [hb] at e
    cases e
    rw [Addr.add_lit]
    exact hcell
  · intro j u hu
    rw [Addr.add_lit]
    obtain ⟨q1, q2, -, -⟩ := blk2P hg
    rcases j with _ | _ | j
    · simp at hu; subst hu; exact q1
    · simp at hu; subst hu; exact q2
    · simp at hu
  · intro u hu
    simp at hu
    rcases hu with rfl | rfl <;> rfl
  · refine h v' w' ⟨?_, by simp; omega⟩ ((Below.refl _ _).grown h2 (Nat.le_refl _) fun k hk => by cases hk)
    have e : (flat (ps ++ [(x, y)])).map (Value.int .i64) = (flat ps).map (Value.int .i64) ++ [.int .i64 x, .int .i64 y] := by rw [flat_app]; simp [flat]
    rw [e]
    simpa using h1

theorem pairs_kept {w w' : World} {bB : Nat} {v bv : Value} {T : TypeId} {ps : List (Int × Int)} (h : Pairs w v ps) (hk : KeptOff (fun k => k = bB) w w') (hb : w.heap[bB]? = some (.cells #[bv] T (0, 0))) (hbv : ∀ x, bv ≠ .int .i64 x) : Pairs w' v ps := by
  obtain ⟨a, cap, rfl, hl, hc⟩ := h
  refine ⟨a, cap, rfl, hl, fun j hj => ?_⟩
  obtain ⟨b, off, e, hlt, hcell⟩ := hc j hj
  refine ⟨b, off, e, Nat.lt_of_lt_of_le hlt hk.size, ?_⟩
  have hne : b ≠ bB := by
    intro e2
    subst e2
    rw [World.cell?, hb] at hcell
    rcases ho : off + j with _ | q
    · rw [ho] at hcell
      simp at hcell
      exact hbv _ hcell
    · rw [ho] at hcell
      simp at hcell
  rw [← hcell]
  unfold World.cell?
  rw [hk.block b hlt hne]
end Go.Proofs.Ytpieaeokbblflaa
