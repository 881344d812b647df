/- A copy of a list: 'append([]int{}, list...)'; conditions: none. -/
import Derived.Test.YtikfddppjalfdaaMem
import Derived.Laws.OwnMore
namespace Go.Proofs.Ytikfddppjalfdaa
open Go.RowKit

/-- out = append(out, list...) -/
theorem wp_append_list {ops : Array Oper} {rest : List Oper} {o : Oper} {a : Act} {Q : Exit → Act → World → Prop} (w : World) (hgd : o.guard = none) (s x : Operand)
    (ho : o.op = .call { callee := .builtin .append, args := #[s, x], argTypes := #[22, 22] }) (B : Nat) (v : Value) (xs : List Int) (hs : a.eval s = v) (hown : OwnI w B v xs)
    (u : Value) (ys : List Int) (hx : a.eval x = u) (hy : Ints w u ys) (hne : 0 < ys.length) (hlen : xs.length + ys.length ≤ 1099511627776) (hB : B ≤ w.heap.size)
    (h : ∀ v' w', OwnI w' B v' (xs ++ ys) → w.grownBy w' v.ownBlock → Below B w w' → v' ≠ .slice none 0 0 → wpList Try.prog ops Q rest (a.put o.dst v') w') :
    wpList Try.prog ops Q (o :: rest) a w := by
  obtain ⟨ad, cap, rfl, hl, -⟩ := hy.out
  obtain ⟨b, off, rfl, -, -⟩ := hy.at 0 hne
  obtain ⟨i0, hi, hz0, hz1, hz2⟩ := info_parts info_int
  refine wpList_append_own _ hgd s x 22 ho B 3 i0 (.int .i64 0) 1 8 Try.underlying22 hi hz0 hz1 hz2 rfl (by decide) v xs.length (xs.map (Value.int .i64)) hs (by simpa using hown.1) ⟨b, off, none⟩ ys.length cap (ys.map (Value.int .i64)) hx (by simp) ?_ ?_
    (by unfold maxLen; omega) (by omega) (by omega) fun v' w' h1 h2 h3 => ?_
  · intro j u hu
    simp only [List.getElem?_map, Option.map_eq_some_iff] at hu
    obtain ⟨y, hy', rfl⟩ := hu
    obtain ⟨hj, rfl⟩ := List.getElem?_eq_some_iff.1 hy'
    obtain ⟨b', off', e, -, hc⟩ := hy.at j hj
    simp only [Option.some.injEq, Addr.mk.injEq, and_true] at e
    obtain ⟨rfl, rfl⟩ := e
    rw [Addr.add_lit]
    exact hc
  · intro u hu
    obtain ⟨y, -, rfl⟩ := List.mem_map.1 hu
    rfl
  · refine h v' w' ⟨by simpa using h1, by simp; omega⟩ h2 ((Below.refl _ _).grown h2 hB fun k hk => (hown.lt k hk).1) fun e => ?_
    have := (h3.1 e).2
    omega

/-- nothing is appended -/
theorem wp_append_nothing {P : Program} {w : World} {ops : Array Oper} {rest : List Oper} {o : Oper} {a : Act} {Q : Exit → Act → World → Prop} (hgd : o.guard = none) (s x : Operand) (t : TypeId)
    (ho : o.op = .call { callee := .builtin .append, args := #[s, x], argTypes := #[t, t] })
    (base : Nat) (e : TypeId) (i : TypeInfo) (size : Nat) (ht : P.underlying t = some (.slice e)) (hi : P.info? e = some i)
    (v : Value) (n c : Nat) (xs : List Value) (hs : a.eval s = v) (hown : w.ownsRow base e size v n xs) (hx : a.eval x = .slice none 0 c)
    (h : wpList P ops Q rest (a.put o.dst v) w) : wpList P ops Q (o :: rest) a w := by
  refine wpList_plain hgd fun K hK => ?_
  have hrun : (Builtin.append_ #[t, t] o.type #[v, .slice none 0 c]).run P w = .ok v w := by
    rcases hown.2 with ⟨rfl, rfl⟩ | ⟨g, cap, cur, rfl, _, _, hnc, _⟩
    · simp [Builtin.append_, run_underlying ht, sizeOf, typeInfo, hi, Builtin.lenOf, Builtin.firstCells]
    · simp [Builtin.append_, run_underlying ht, sizeOf, typeInfo, hi, Builtin.lenOf, Builtin.firstCells, hnc, storeCells]
  unfold Oper.wp
  simp [execOp, ho, resolve, invoke, builtin, hs, hx, hrun, Result.andThen]
  exact hK _ _ h
/-- out = append(out, list...), whatever the list's length -/
theorem wp_append_list0 {ops : Array Oper} {rest : List Oper} {o : Oper} {a : Act} {Q : Exit → Act → World → Prop} (w : World) (hgd : o.guard = none) (s x : Operand)
    (ho : o.op = .call { callee := .builtin .append, args := #[s, x], argTypes := #[22, 22] }) (B : Nat) (v : Value) (xs : List Int) (hs : a.eval s = v) (hown : OwnI w B v xs)
    (u : Value) (ys : List Int) (hx : a.eval x = u) (hy : Ints w u ys) (hlen : xs.length + ys.length ≤ 1099511627776) (hB : B ≤ w.heap.size)
    (h : ∀ v' w', OwnI w' B v' (xs ++ ys) → w.grownBy w' v.ownBlock → Below B w w' → wpList Try.prog ops Q rest (a.put o.dst v') w') :
    wpList Try.prog ops Q (o :: rest) a w := by
  obtain ⟨ad, cap, rfl, hl, -⟩ := hy.out
  obtain ⟨i0, hi, hz0, hz1, hz2⟩ := info_parts info_int
  cases ad with
  | none =>
    have h0 : ys = [] := by
      rcases ys with _ | ⟨y, ys⟩
      · rfl
      · obtain ⟨_, _, e, -⟩ := hy.at 0 (by simp)
        cases e
    subst h0
    refine wp_append_nothing hgd s x 22 ho B 3 i0 1 Try.underlying22 hi v xs.length cap (xs.map (Value.int .i64)) hs (by simpa using hown.1) (by simpa using hx) ?_
    exact h v w (by simpa using hown) ⟨rfl, rfl, rfl, Nat.le_refl _, fun _ _ _ => rfl⟩ (Below.refl _ _)
  | some ad =>
    refine wpList_append_own _ hgd s x 22 ho B 3 i0 (.int .i64 0) 1 8 Try.underlying22 hi hz0 hz1 hz2 rfl (by decide) v xs.length (xs.map (Value.int .i64)) hs (by simpa using hown.1) ad ys.length cap (ys.map (Value.int .i64)) hx (by simp) ?_ ?_
      (by unfold maxLen; omega) (by omega) (by omega) fun v' w' h1 h2 h3 => ?_
    · intro j u hu
      simp only [List.getElem?_map, Option.map_eq_some_iff] at hu
      obtain ⟨y, hy', rfl⟩ := hu
      obtain ⟨hj, rfl⟩ := List.getElem?_eq_some_iff.1 hy'
      obtain ⟨b', off', e, -, hc⟩ := hy.at j hj
      cases e
      rw [Addr.add_lit]
      exact hc
    · intro u hu
      obtain ⟨y, -, rfl⟩ := List.mem_map.1 hu
      rfl
    · exact h v' w' ⟨by simpa using h1, by simp; omega⟩ h2 ((Below.refl _ _).grown h2 hB fun k hk => (hown.lt k hk).1)

theorem c_l1Own_any (v : Value) (xs : List Int) (w : World) (h : Ints w v xs) (hs : xs.length ≤ 1099511627776) :
    Calls Try.prog 81 #[v] w fun e w' => ∃ v', e = .returned v' ∧ OwnI w' w.heap.size v' xs ∧ Below w.heap.size w w' := by
  go_enter Try.func81, Try.ntmps81
  go_wp2_with (at_builtin; refine wp_append_list0 _ rfl _ _ rfl w.heap.size _ [] rfl (own_empty w _ (Nat.le_refl _)) v xs rfl (h.below ((Below.refl _ _).alloc (Nat.le_refl _) _)) (by simpa using hs) (by simp) ?_; intro v' w1 hown hgr hB)
  have hB2 := ((Below.refl w.heap.size w).alloc (Nat.le_refl _) (.cells #[] 3)).trans hB
  go_wp2
  go_ret
  exact ⟨_, rfl, by simpa using hown, hB2⟩
theorem c_copied_any (v : Value) (xs : List Int) (w : World) (h : Ints w v xs) (hs : xs.length ≤ 1099511627776) :
    Calls Try.prog 82 #[v] w fun e w' => ∃ v', e = .returned v' ∧ OwnI w' w.heap.size v' xs ∧ Below w.heap.size w w' := by
  go_enter Try.func82, Try.ntmps82
  go_wp2_with (at_builtin; refine wp_append_list0 _ rfl _ _ rfl w.heap.size _ [] rfl (own_empty w _ (Nat.le_refl _)) v xs rfl (h.below ((Below.refl _ _).alloc (Nat.le_refl _) _)) (by simpa using hs) (by simp) ?_; intro v' w1 hown hgr hB)
  have hB2 := ((Below.refl w.heap.size w).alloc (Nat.le_refl _) (.cells #[] 3)).trans hB
  go_wp2
  go_ret
  exact ⟨_, rfl, by simpa using hown, hB2⟩
theorem c_l1Own (v : Value) (xs : List Int) (w : World) (h : Ints w v xs) (hn : 0 < xs.length) (hs : xs.length ≤ 1099511627776) :
    Calls Try.prog 81 #[v] w fun e w' => ∃ v', e = .returned v' ∧ OwnI w' w.heap.size v' xs ∧ Below w.heap.size w w' := by
  go_enter Try.func81, Try.ntmps81
  go_wp2_with (at_builtin; refine wp_append_list _ rfl _ _ rfl w.heap.size _ [] rfl (own_empty w _ (Nat.le_refl _)) v xs rfl (h.below ((Below.refl _ _).alloc (Nat.le_refl _) _)) hn (by simpa using hs) (by simp) ?_; intro v' w1 hown hgr hB hne)
  have hB2 := ((Below.refl w.heap.size w).alloc (Nat.le_refl _) (.cells #[] 3)).trans hB
  go_wp2
  go_ret
  exact ⟨_, rfl, by simpa using hown, hB2⟩
theorem c_copied (v : Value) (xs : List Int) (w : World) (h : Ints w v xs) (hn : 0 < xs.length) (hs : xs.length ≤ 1099511627776) :
    Calls Try.prog 82 #[v] w fun e w' => ∃ v', e = .returned v' ∧ OwnI w' w.heap.size v' xs ∧ Below w.heap.size w w' := by
  go_enter Try.func82, Try.ntmps82
  go_wp2_with (at_builtin; refine wp_append_list _ rfl _ _ rfl w.heap.size _ [] rfl (own_empty w _ (Nat.le_refl _)) v xs rfl (h.below ((Below.refl _ _).alloc (Nat.le_refl _) _)) hn (by simpa using hs) (by simp) ?_; intro v' w1 hown hgr hB hne)
  have hB2 := ((Below.refl w.heap.size w).alloc (Nat.le_refl _) (.cells #[] 3)).trans hB
  go_wp2
  go_ret
  exact ⟨_, rfl, by simpa using hown, hB2⟩

end Go.Proofs.Ytikfddppjalfdaa
