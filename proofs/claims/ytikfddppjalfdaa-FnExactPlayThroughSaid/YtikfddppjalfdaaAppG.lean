/- Appends, with the blocks that the new slice lies in: the old ones or new ones; conditions: none. -/
import Derived.Test.YtikfddppjalfdaaLists
import Derived.Maps.AppendAt
namespace Go.Proofs.Ytikfddppjalfdaa
open Go.RowKit

theorem sl_news {w : World} {ad : Option Addr} {n cap : Nat} {us : List Value} (h : Sl w (.slice ad n cap) us) (hne : 0 < us.length) : ∃ b off, ad = some ⟨b, off, none⟩ ∧ n = us.length ∧ ∀ j u, us[j]? = some u → w.cell? ((⟨b, off, none⟩ : Addr).add j) = some u := by
  obtain ⟨a, c, e, hl, hc⟩ := h
  cases e
  obtain ⟨b, off, rfl, -, -⟩ := hc 0 _ (List.getElem?_eq_getElem hne)
  refine ⟨b, off, rfl, rfl, fun j u hu => ?_⟩
  obtain ⟨b', off', e, -, hcell⟩ := hc j u hu
  cases e
  rw [Addr.add_lit]
  exact hcell

/-- out = append(out, list...), list not empty -/
theorem wp_append_intsG {ops : Array Oper} {rest : List Oper} {o : Oper} {a : Act} {Q : Exit → Act → World → Prop} (w : World) (hgd : o.guard = none) (s x : Operand)
    (ho : o.op = .call { callee := .builtin .append, args := #[s, x], argTypes := #[22, 22] }) (B : Nat) (v : Value) (xs : List Int) (hs : a.eval s = v) (hown : OwnI w B v xs)
    (u : Value) (ys : List Int) (hx : a.eval x = u) (hy : Ints w u ys) (hne : 0 < ys.length) (hlen : xs.length + ys.length ≤ 1099511627776) (hB : B ≤ w.heap.size)
    (h : ∀ v' w', OwnI w' B v' (xs ++ ys) → w.grownBy w' v.ownBlock → v' ≠ .slice none 0 0 → (v'.ownBlock = v.ownBlock ∨ v'.ownBlock = some w.heap.size) → wpList Try.prog ops Q rest (a.put o.dst v') w') :
    wpList Try.prog ops Q (o :: rest) a w := by
  obtain ⟨ad, cap, rfl, hl, -⟩ := hy.out
  obtain ⟨b, off, rfl, hn, hnews⟩ := sl_news hy (by simpa using hne)
  obtain ⟨i0, hi, hz0, hz1, hz2⟩ := info_parts info_int
  refine wpList_append_own_at _ hgd s x 22 ho B 3 i0 (.int .i64 0) 1 8 Try.underlying22 hi hz0 hz1 hz2 rfl (by decide) v xs.length (xs.map (Value.int .i64)) hs (by simpa using hown.1) ⟨b, off, none⟩ ys.length cap (ys.map (Value.int .i64)) hx (by simp) hnews ?_
    (by unfold maxLen; omega) (by omega) (by omega) fun v' w' h1 h2 h3 h4 => ?_
  · intro u hu
    obtain ⟨y, -, rfl⟩ := List.mem_map.1 hu
    rfl
  · refine h v' w' ⟨by simpa using h1, by simp; omega⟩ h2 (fun e => ?_) h4
    have := (h3.1 e).2
    omega

/-- out = append(out, n): the world in which the one new cell has been laid -/
theorem wp_append_intB {ops : Array Oper} {rest : List Oper} {o : Oper} {a : Act} {Q : Exit → Act → World → Prop} (w : World) (n : Int) (hgd : o.guard = none) (s x : Operand)
    (ho : o.op = .call { callee := .builtin .append, args := #[s, x], argTypes := #[22, 22] }) (B : Nat) (v : Value) (xs : List Int) (hs : a.eval s = v) (hown : OwnI w B v xs)
    {g : Nat} (hx : a.eval x = .slice (some ⟨g, 0, none⟩) 1 1) (hg : g = w.heap.size) (hlen : xs.length < 1099511627776) (hB : B ≤ w.heap.size)
    (h : ∀ v' w', OwnI w' B v' (xs ++ [n]) → w.grownBy w' v.ownBlock → v' ≠ .slice none 0 0 → (v'.ownBlock = v.ownBlock ∨ v'.ownBlock = some (w.heap.size + 1)) → wpList Try.prog ops Q rest (a.put o.dst v') w') :
    wpList Try.prog ops Q (o :: rest) a (w.alloc (.cells #[.int .i64 n] 3)) := by
  subst hg
  refine wp_append_intsG _ hgd s x ho B v xs hs (hown.below ((Below.refl _ _).alloc (Nat.le_refl _) _)) _ [n] hx ?_ (by simp) (by simp; omega) (by simp; omega) fun v' w' h1 h2 h3 h4 => h v' w' h1 (grown_trans (World.grownBy_alloc w _ none) h2) h3 (by simpa using h4)
  refine ⟨some ⟨w.heap.size, 0, none⟩, 1, by simp, by simp, fun j u hu => ⟨w.heap.size, 0, rfl, by simp, ?_⟩⟩
  have : j = 0 := by have := (List.getElem?_eq_some_iff.1 hu).1; simpa using this
  subst this
  simp at hu
  subst hu
  rw [World.cell?_alloc_at _ _ _ _ rfl]
  rfl

/-- out = append(out, rows...), rows not empty, of blocks of their own -/
theorem wp_append_rowsG {ops : Array Oper} {rest : List Oper} {o : Oper} {a : Act} {Q : Exit → Act → World → Prop} (w : World) (hgd : o.guard = none) (s x : Operand)
    (ho : o.op = .call { callee := .builtin .append, args := #[s, x], argTypes := #[23, 23] }) (B : Nat) (F F2 : Nat → Prop) (v : Value) (xss : List (List Int)) (hs : a.eval s = v) (hown : OwnR w B F v xss)
    (u : Value) (vs2 : List Value) (yss : List (List Int)) (hx : a.eval x = u) (hsl : Sl w u vs2) (hne : 0 < vs2.length) (hn2 : vs2.length = yss.length) (hr2 : ∀ i (h : i < vs2.length) (h' : i < yss.length), OwnI w B vs2[i] yss[i])
    (hd2 : ∀ i j (_ : i < vs2.length) (_ : j < vs2.length), i ≠ j → ∀ g, vs2[i].ownBlock = some g → vs2[j].ownBlock ≠ some g) (hF2 : ∀ i (_ : i < vs2.length) g, vs2[i].ownBlock = some g → F2 g) (hdis : ∀ k, F k → ¬ F2 k)
    (hlen : xss.length + yss.length ≤ 1099511627776) (hB : B ≤ w.heap.size)
    (h : ∀ v' w', (∀ G : Nat → Prop, (∀ k, F k → G k) → (∀ k, F2 k → G k) → (∀ k, w.heap.size ≤ k → k < w'.heap.size → G k) → OwnR w' B G v' (xss ++ yss)) → w.grownBy w' v.ownBlock → v' ≠ .slice none 0 0 → wpList Try.prog ops Q rest (a.put o.dst v') w') :
    wpList Try.prog ops Q (o :: rest) a w := by
  obtain ⟨vs, hvs, hn, hrs, hdd, hf, hfs⟩ := hown
  obtain ⟨i0, hi, hz0, hz1, hz2⟩ := info_parts info_row
  obtain ⟨ad, cap, rfl, hl, -⟩ := id hsl
  obtain ⟨b, off, rfl, -, hnews⟩ := sl_news hsl hne
  refine wpList_append_own_at _ hgd s x 23 ho B 22 i0 (.slice none 0 0) 1 24 Try.underlying23 hi hz0 hz1 hz2 rfl (by decide) v vs.length vs hs hvs.1 ⟨b, off, none⟩ vs2.length cap vs2 hx (by simp) hnews ?_
    (by unfold maxLen; omega) (by omega) (by omega) fun v' w' h1 hgr h3 h4 => ?_
  · intro u hu
    obtain ⟨i, hi, rfl⟩ := List.getElem_of_mem hu
    obtain ⟨a', c', e, -, -⟩ := (hr2 i hi (by omega)).ints.out
    rw [e]; rfl
  · have kr : ∀ i (h1 : i < vs2.length) (h2 : i < yss.length), OwnI w' B vs2[i] yss[i] := fun i h1 h2 => (hr2 i h1 h2).grown hgr fun g e e' => OwnS.apart (hr2 i h1 h2) hvs (by decide) e e'
    have krs : ∀ i (h1 : i < vs.length) (h2 : i < xss.length), OwnI w' B vs[i] xss[i] := fun i h1 h2 => (hrs i h1 h2).grown hgr fun g e e' => OwnS.apart (hrs i h1 h2) hvs (by decide) e e'
    have hown2 : OwnS w' B 22 v' (vs ++ vs2) := ⟨by simpa using h1, by simp; omega⟩
    refine h v' w' (fun G hG1 hG2 hG3 => ⟨vs ++ vs2, hown2, by simp [hn, hn2], fun i h1 h2 => ?_, fun i j h1 h2 hne q e => ?_, fun q e => ?_, fun i h1 q e => ?_⟩) hgr fun e => ?_
    · simp only [List.length_append] at h1 h2
      by_cases hi : i < vs.length
      · rw [List.getElem_append_left hi, List.getElem_append_left (by omega)]; exact krs i hi (by omega)
      · rw [List.getElem_append_right (by omega), List.getElem_append_right (by omega)]
        simp only [hn]
        exact kr _ (by omega) (by omega)
    · simp only [List.length_append] at h1 h2
      by_cases hi : i < vs.length <;> by_cases hj : j < vs.length
      · rw [List.getElem_append_left hi] at e
        rw [List.getElem_append_left hj]
        exact hdd i j hi hj hne q e
      · rw [List.getElem_append_left hi] at e
        rw [List.getElem_append_right (by omega)]
        intro e2
        exact hdis q (hfs i hi q e) (hF2 _ (by omega) q e2)
      · rw [List.getElem_append_right (by omega)] at e
        rw [List.getElem_append_left hj]
        intro e2
        exact hdis q (hfs j hj q e2) (hF2 _ (by omega) q e)
      · rw [List.getElem_append_right (by omega)] at e ⊢
        exact hd2 _ _ (by omega) (by omega) (by omega) q e
    · rcases h4 with h4 | h4
      · rw [h4] at e; exact hG1 q (hf q e)
      · rw [h4] at e; cases e; exact hG3 _ (Nat.le_refl _) (hown2.lt _ h4).2
    · simp only [List.length_append] at h1
      by_cases hi : i < vs.length
      · rw [List.getElem_append_left hi] at e; exact hG1 q (hfs i hi q e)
      · rw [List.getElem_append_right (by omega)] at e; exact hG2 q (hF2 _ (by omega) q e)
    · have := (h3.1 e).2
      omega

/-- out = append(out, row), the new cell in a block of its own -/
theorem wp_append_rowG {ops : Array Oper} {rest : List Oper} {o : Oper} {a : Act} {Q : Exit → Act → World → Prop} (w : World) (hgd : o.guard = none) (s x : Operand)
    (ho : o.op = .call { callee := .builtin .append, args := #[s, x], argTypes := #[23, 23] }) (B : Nat) (F : Nat → Prop) (v : Value) (xss : List (List Int)) (hs : a.eval s = v) (hown : OwnR w B F v xss)
    (r : Value) (ys : List Int) (hr : OwnI w B r ys) (hd : ∀ g, r.ownBlock = some g → ¬ F g) {g : Nat} (hx : a.eval x = .slice (some ⟨g, 0, none⟩) 1 1) (hg : w.cell? ⟨g, 0, none⟩ = some r)
    (hlen : xss.length < 1099511627776) (hB : B ≤ w.heap.size)
    (h : ∀ v' w', (∀ G : Nat → Prop, (∀ k, F k → G k) → (∀ k, r.ownBlock = some k → G k) → (∀ k, w.heap.size ≤ k → k < w'.heap.size → G k) → OwnR w' B G v' (xss ++ [ys])) → w.grownBy w' v.ownBlock → v' ≠ .slice none 0 0 → wpList Try.prog ops Q rest (a.put o.dst v') w') :
    wpList Try.prog ops Q (o :: rest) a w := by
  refine wp_append_rowsG w hgd s x ho B F (fun k => r.ownBlock = some k) v xss hs hown _ [r] [ys] hx ⟨_, 1, rfl, by simp, fun j u hu => ?_⟩ (by simp) rfl (fun i h1 h2 => ?_) (fun i j h1 h2 hne => ?_) (fun i h1 g e => ?_) (fun k hk e => hd k e hk) (by simp; omega) hB h
  · have : j = 0 := by have := (List.getElem?_eq_some_iff.1 hu).1; simp at this; omega
    subst this
    simp at hu
    subst hu
    exact ⟨g, 0, rfl, World.block_lt_of_cell? w _ hg, hg⟩
  · simp at h1; subst h1; exact hr
  · simp at h1 h2; omega
  · simp at h1; subst h1; exact e

theorem grown_kept {w w' : World} {v : Value} (h : w.grownBy w' v.ownBlock) : KeptOff (fun k => v.ownBlock = some k) w w' := ⟨h.os, h.tape, h.output, h.size, fun k hk hf => h.block k hk fun e => hf e.symm⟩

end Go.Proofs.Ytikfddppjalfdaa
