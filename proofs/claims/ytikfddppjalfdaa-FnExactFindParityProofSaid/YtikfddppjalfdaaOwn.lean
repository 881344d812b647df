/- A copy of a list: 'append([]int{}, list...)'; conditions: none. -/
import Derived.Test.YtikfddppjalfdaaMem
namespace Go.Proofs.Ytikfddppjalfdaa
open Go.RowKit

/-- out = append(out, list...) -/
theorem wp_append_list {ops : Array Oper} {rest : List Oper} {o : Oper} {a : Act} {Q : Exit → Act → World → Prop} (w : World) (hgd : o.guard = none) (s x : Operand)
    (ho : o.op = .call { callee := .builtin .append, args := #[s, x], argTypes := #[22, 22] }) (B : Nat) (v : Value) (xs : List Int) (hs : a.eval s = v) (hown : OwnI w B v xs)
    (u : Value) (ys : List Int) (hx : a.eval x = u) (hy : Ints w u ys) (hne : 0 < ys.length) (hlen : xs.length + ys.length ≤ 1099511627776) (hB : B ≤ w.heap.size)
    (h : ∀ v' w', OwnI w' B v' (xs ++ ys) → w.grownBy w' v.ownBlock → Below B w w' → v' ≠ .slice none 0 0 → wpList Try.prog ops Q rest (a.put o.dst v') w') :
    wpList Try.prog ops Q (o :: rest) a w := by
  obtain ⟨ad, cap, rfl, hl, -⟩ := hy.out
  obtain ⟨b, off, rfl, -, -⟩ := hy.at 0 hne
  obtain ⟨i0, hi, hz0, hz1, hz2⟩ := info_parts info_int
  refine wpList_append_own _ hgd s x 22 ho B 3 i0 (.int .i64 0) 1 8 Try.underlying22 hi hz0 hz1 hz2 rfl (by decide) v xs.length (xs.map (Value.int .i64)) hs (by simpa using hown.1) ⟨b, off, none⟩ ys.length cap (ys.map (Value.int .i64)) hx (by simp) ?_ ?_
    (by unfold maxLen; omega) (by omega) (by omega) fun v' w' h1 h2 h3 => ?_
  · intro j u hu
    simp only [List.getElem?_map, Option.map_eq_some_iff] at hu
    obtain ⟨y, hy', rfl⟩ := hu
    obtain ⟨hj, rfl⟩ := List.getElem?_eq_some_iff.1 hy'
    obtain ⟨b', off', e, -, hc⟩ := hy.at j hj
    simp only [Option.some.injEq, Addr.mk.injEq, and_true] at e
    obtain ⟨rfl, rfl⟩ := e
    rw [Addr.add_lit]
    exact hc
  · intro u hu
    obtain ⟨y, -, rfl⟩ := List.mem_map.1 hu
    rfl
  · refine h v' w' ⟨by simpa using h1, by simp; omega⟩ h2 ((Below.refl _ _).grown h2 hB fun k hk => (hown.lt k hk).1) fun e => ?_
    have := (h3.1 e).2
    omega

theorem c_l1Own (v : Value) (xs : List Int) (w : World) (h : Ints w v xs) (hn : 0 < xs.length) (hs : xs.length ≤ 1099511627776) :
    Calls Try.prog 81 #[v] w fun e w' => ∃ v', e = .returned v' ∧ OwnI w' w.heap.size v' xs ∧ Below w.heap.size w w' := by
  go_enter Try.func81, Try.ntmps81
  go_wp2_with (at_builtin; refine wp_append_list _ rfl _ _ rfl w.heap.size _ [] rfl (own_empty w _ (Nat.le_refl _)) v xs rfl (h.below ((Below.refl _ _).alloc (Nat.le_refl _) _)) hn (by simpa using hs) (by simp) ?_; intro v' w1 hown hgr hB hne)
  have hB2 := ((Below.refl w.heap.size w).alloc (Nat.le_refl _) (.cells #[] 3)).trans hB
  go_wp2
  go_ret
  exact ⟨_, rfl, by simpa using hown, hB2⟩
theorem c_copied (v : Value) (xs : List Int) (w : World) (h : Ints w v xs) (hn : 0 < xs.length) (hs : xs.length ≤ 1099511627776) :
    Calls Try.prog 82 #[v] w fun e w' => ∃ v', e = .returned v' ∧ OwnI w' w.heap.size v' xs ∧ Below w.heap.size w w' := by
  go_enter Try.func82, Try.ntmps82
  go_wp2_with (at_builtin; refine wp_append_list _ rfl _ _ rfl w.heap.size _ [] rfl (own_empty w _ (Nat.le_refl _)) v xs rfl (h.below ((Below.refl _ _).alloc (Nat.le_refl _) _)) hn (by simpa using hs) (by simp) ?_; intro v' w1 hown hgr hB hne)
  have hB2 := ((Below.refl w.heap.size w).alloc (Nat.le_refl _) (.cells #[] 3)).trans hB
  go_wp2
  go_ret
  exact ⟨_, rfl, by simpa using hown, hB2⟩

end Go.Proofs.Ytikfddppjalfdaa
