/- Slices of bytes: appending, cutting, what comes in; conditions: none. -/
import Derived.Test.YtpieaeokbblflaaCur
import Derived.Test.YtpieaeokbblflaaAppG
import Derived.Test.YtpieaeokbblflaaOwn
namespace Go.Proofs.Ytpieaeokbblflaa
open Go.RowKit

theorem info_u8 : (Try.prog.info? 5).map (fun i => (i.zero, i.size, i.bytes)) = some (some (.int .u8 0), 1, 1) := by kernel_rfl
def IsU8 (us : List Value) : Prop := ∀ u ∈ us, ∃ x, u = .int .u8 x ∧ 0 ≤ x ∧ x < 256
theorem BytesV.sl {w : World} {v : Value} {n : Nat} (h : BytesV w v n) : ∃ us, us.length = n ∧ IsU8 us ∧ Sl w v us := by
  obtain ⟨ad, cap, rfl, hc, hn, hb⟩ := h
  refine ⟨(List.range n).map (fun i => match ad with | some ⟨b, off, none⟩ => (w.cell? ⟨b, off + i, none⟩).getD (.int .u8 0) | _ => .int .u8 0), by simp, ?_, ad, cap, by simp, by simpa using hc, fun j u hu => ?_⟩
  · intro u hu
    obtain ⟨i, hi, rfl⟩ := List.mem_map.1 hu
    obtain ⟨b, off, x, rfl, -, hcell, h0⟩ := hb i (List.mem_range.1 hi)
    exact ⟨x, by simp [hcell], h0⟩
  · simp only [List.getElem?_map, Option.map_eq_some_iff] at hu
    obtain ⟨i, hi, rfl⟩ := hu
    obtain ⟨hj, rfl⟩ := List.getElem?_eq_some_iff.1 hi
    simp only [List.length_range] at hj
    simp only [List.getElem_range]
    obtain ⟨b, off, x, rfl, hbl, hcell, h0⟩ := hb j hj
    exact ⟨b, off, rfl, hbl, by simp [hcell]⟩
theorem OwnS.bytes {w : World} {B : Nat} {v : Value} {us : List Value} (h : OwnS w B 5 v us) (hu : IsU8 us) (hl : us.length < 140737488355328) : BytesV w v us.length := by
  obtain ⟨a, cap, rfl, hc, hat⟩ := h.sl
  refine ⟨a, cap, rfl, hc, by omega, fun i hi => ?_⟩
  obtain ⟨b, off, e, hb, hcell⟩ := hat i us[i] (List.getElem?_eq_getElem hi)
  obtain ⟨x, hx, h0⟩ := hu _ (List.getElem_mem hi)
  exact ⟨b, off, x, e, hb, by rw [hcell, hx], h0⟩

/-- out = append(out, bytes...) -/
theorem wp_append_u8s {ops : Array Oper} {rest : List Oper} {o : Oper} {a : Act} {Q : Exit → Act → World → Prop} (w : World) (hgd : o.guard = none) (s x : Operand)
    (ho : o.op = .call { callee := .builtin .append, args := #[s, x], argTypes := #[43, 43] }) (B : Nat) (v : Value) (us : List Value) (hs : a.eval s = v) (hown : OwnS w B 5 v us)
    (u : Value) (ys : List Value) (hx : a.eval x = u) (hy : Sl w u ys) (hw : IsU8 ys) (hlen : us.length + ys.length ≤ 1099511627776) (hB : B ≤ w.heap.size)
    (h : ∀ v' w', OwnS w' B 5 v' (us ++ ys) → Below B w w' → wpList Try.prog ops Q rest (a.put o.dst v') w') :
    wpList Try.prog ops Q (o :: rest) a w := by
  obtain ⟨ad, cap, rfl, hl, hc⟩ := hy
  obtain ⟨i0, hi, hz0, hz1, hz2⟩ := info_parts info_u8
  by_cases h0 : ys.length = 0
  · have : ys = [] := List.length_eq_zero_iff.1 h0
    subst this
    cases ad with
    | none =>
      refine wp_append_nothing hgd s x 43 ho B 5 i0 1 Try.underlying43 hi v us.length cap us hs (by simpa using hown.1) (by simpa using hx) ?_
      exact h v w (by simpa using hown) (Below.refl _ _)
    | some ad =>
      refine wpList_append_own _ hgd s x 43 ho B 5 i0 _ 1 1 Try.underlying43 hi hz0 hz1 hz2 rfl (by decide) v us.length us hs hown.1 ad 0 cap [] (by simpa using hx) rfl (by simp) (by simp)
        (by unfold maxLen; omega) (by omega) (by omega) fun v' w' h1 h2 h3 => ?_
      exact h v' w' ⟨by simpa using h1, by simp; omega⟩ ((Below.refl _ _).grown h2 hB fun k hk => (OwnS.lt hown k hk).1)
  · obtain ⟨b, off, rfl, -, -⟩ := hc 0 ys[0] (List.getElem?_eq_getElem (by omega))
    refine wpList_append_own _ hgd s x 43 ho B 5 i0 _ 1 1 Try.underlying43 hi hz0 hz1 hz2 rfl (by decide) v us.length us hs hown.1 ⟨b, off, none⟩ ys.length cap ys hx (by omega) ?_ ?_
      (by unfold maxLen; omega) (by omega) (by omega) fun v' w' h1 h2 h3 => ?_
    · intro j y hj
      obtain ⟨b', off', e, -, hc'⟩ := hc j y hj
      cases e
      rw [Addr.add_lit]
      exact hc'
    · intro y hy
      obtain ⟨z, rfl, -⟩ := hw y hy
      rfl
    · exact h v' w' ⟨by rw [List.length_append]; exact h1, by simp; omega⟩ ((Below.refl _ _).grown h2 hB fun k hk => (OwnS.lt hown k hk).1)

theorem own_u8_empty (w : World) (B : Nat) (hB : B ≤ w.heap.size) : OwnS (w.alloc (.cells #[] 5)) B 5 (.slice (some ⟨w.heap.size, 0, none⟩) 0 0) [] :=
  ⟨by simpa using World.ownsRow_made w #[] 0 hB (Nat.zero_le _) (by simp), by simp⟩
theorem sl_one {w : World} {u : Value} {T : TypeId} : Sl (w.alloc (.cells #[u] T)) (.slice (some ⟨w.heap.size, 0, none⟩) 1 1) [u] := by
  refine ⟨_, 1, rfl, by simp, fun j y hj => ⟨w.heap.size, 0, rfl, by simp, ?_⟩⟩
  have : j = 0 := by have := (List.getElem?_eq_some_iff.1 hj).1; simpa using this
  subst this
  simp at hj
  subst hj
  rw [World.cell?_alloc_at _ _ _ _ rfl]
  rfl
theorem Sl.drop {w : World} {b off n cap k : Nat} {us : List Value} (h : Sl w (.slice (some ⟨b, off, none⟩) n cap) us) (hk : k ≤ n) : Sl w (.slice (some ⟨b, off + k, none⟩) (n - k) (cap - k)) (us.drop k) := by
  obtain ⟨a, c, e, hl, hc⟩ := h
  simp only [Value.slice.injEq] at e
  obtain ⟨rfl, rfl, rfl⟩ := e
  refine ⟨some ⟨b, off + k, none⟩, cap - k, by simp, by simp; omega, fun j u hu => ?_⟩
  rw [List.getElem?_drop] at hu
  obtain ⟨b', off', e, hb, hcell⟩ := hc (k + j) u hu
  cases e
  exact ⟨b, off + k, rfl, hb, by rw [Nat.add_assoc]; exact hcell⟩
theorem Sl.none {w : World} {X : Option Addr} {n c : Nat} (hn : n = 0) (h : c ≤ 9223372036854775807) : Sl w (.slice X n c) [] := ⟨X, c, by rw [hn]; rfl, by simpa using h, fun j u hu => by simp at hu⟩

theorem IsU8.app {a b : List Value} (h : IsU8 a) (k : IsU8 b) : IsU8 (a ++ b) := fun u hu => (List.mem_append.1 hu).elim (h u) (k u)
end Go.Proofs.Ytpieaeokbblflaa
