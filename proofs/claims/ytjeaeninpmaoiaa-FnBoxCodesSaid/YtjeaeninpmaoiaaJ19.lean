/- Slices of bytes: appending, cutting, what comes in; conditions: none. -/
import Derived.Test.YtjeaeninpmaoiaaJ12
import Derived.Test.YtjeaeninpmaoiaaJ4
import Derived.Test.YtjeaeninpmaoiaaJ3
import Derived.BigQuiet
import Derived.Test.YtjeaeninpmaoiaaJ7
import Derived.Test.YtjeaeninpmaoiaaJ6
namespace Go.Proofs.Ytjeaeninpmaoiaa
open Go.RowKit

theorem info_u8 : (Try.prog.info? 5).map (fun i => (i.zero, i.size, i.bytes)) = some (some (.int .u8 0), 1, 1) := by kernel_rfl
def IsU8 (us : List Value) : Prop := ∀ u ∈ us, ∃ x, u = .int .u8 x ∧ 0 ≤ x ∧ x < 256
theorem BytesV.sl {w : World} {v : Value} {n : Nat} (h : BytesV w v n) : ∃ us, us.length = n ∧ IsU8 us ∧ Sl w v us := by
  obtain ⟨ad, cap, rfl, hc, hn, hb⟩ := h
  refine ⟨(List.range n).map (fun i => match ad with | some ⟨b, off, none⟩ => (w.cell? ⟨b, off + i, none⟩).getD (.int .u8 0) | _ => .int .u8 0), by simp, ?_, ad, cap, by simp, by simpa using hc, fun j u hu => ?_⟩
  · intro u hu
    obtain ⟨i, hi, rfl⟩ := List.mem_map.1 hu
    obtain ⟨b, off, x, rfl, -, hcell, h0⟩ := hb i (List.mem_range.1 hi)
    exact ⟨x, by simp [hcell], h0⟩
  · simp only [List.getElem?_map, Option.map_eq_some_iff] at hu
    obtain ⟨i, hi, rfl⟩ := hu
    obtain ⟨hj, rfl⟩ := List.getElem?_eq_some_iff.1 hi
    simp only [List.length_range] at hj
    simp only [List.getElem_range]
    obtain ⟨b, off, x, rfl, hbl, hcell, h0⟩ := hb j hj
    exact ⟨b, off, rfl, hbl, by simp [hcell]⟩
theorem OwnS.bytes {w : World} {B : Nat} {v : Value} {us : List Value} (h : OwnS w B 5 v us) (hu : IsU8 us) (hl : us.length < 140737488355328) : BytesV w v us.length := by
  obtain ⟨a, cap, rfl, hc, hat⟩ := h.sl
  refine ⟨a, cap, rfl, hc, by omega, fun i hi => ?_⟩
  obtain ⟨b, off, e, hb, hcell⟩ := hat i us[i] (List.getElem?_eq_getElem hi)
  obtain ⟨x, hx, h0⟩ := hu _ (List.getElem_mem hi)
  exact ⟨b, off, x, e, hb, by rw [hcell, hx], h0⟩

/-- out = append(out, bytes...) -/
theorem wp_append_u8s {ops : Array Oper} {rest : List Oper} {o : Oper} {a : Act} {Q : Exit → Act → World → Prop} (w : World) (hgd : o.guard = none) (s x : Operand)
    (ho : o.op = .call { callee := .builtin .append, args := #[s, x], argTypes := #[22, 22] }) (B : Nat) (v : Value) (us : List Value) (hs : a.eval s = v) (hown : OwnS w B 5 v us)
    (u : Value) (ys : List Value) (hx : a.eval x = u) (hy : Sl w u ys) (hw : IsU8 ys) (hlen : us.length + ys.length ≤ 1099511627776) (hB : B ≤ w.heap.size)
    (h : ∀ v' w', OwnS w' B 5 v' (us ++ ys) → Below B w w' → wpList Try.prog ops Q rest (a.put o.dst v') w') :
    wpList Try.prog ops Q (o :: rest) a w := by
  obtain ⟨ad, cap, rfl, hl, hc⟩ := hy
  obtain ⟨i0, hi, hz0, hz1, hz2⟩ := info_parts info_u8
  by_cases h0 : ys.length = 0
  · have : ys = [] := List.length_eq_zero_iff.1 h0
    subst this
    cases ad with
    | none =>
      refine wp_append_nothing hgd s x 22 ho B 5 i0 1 Try.underlying22 hi v us.length cap us hs (by simpa using hown.1) (by simpa using hx) ?_
      exact h v w (by simpa using hown) (Below.refl _ _)
    | some ad =>
      refine wpList_append_own _ hgd s x 22 ho B 5 i0 _ 1 1 Try.underlying22 hi hz0 hz1 hz2 rfl (by decide) v us.length us hs hown.1 ad 0 cap [] (by simpa using hx) rfl (by simp) (by simp)
        (by unfold maxLen; omega) (by omega) (by omega) fun v' w' h1 h2 h3 => ?_
      exact h v' w' ⟨by simpa using h1, by simp; omega⟩ ((Below.refl _ _).grown h2 hB fun k hk => (OwnS.lt hown k hk).1)
  · obtain ⟨b, off, rfl, -, -⟩ := hc 0 ys[0] (List.getElem?_eq_getElem (by omega))
    refine wpList_append_own _ hgd s x 22 ho B 5 i0 _ 1 1 Try.underlying22 hi hz0 hz1 hz2 rfl (by decide) v us.length us hs hown.1 ⟨b, off, none⟩ ys.length cap ys hx (by omega) ?_ ?_
      (by unfold maxLen; omega) (by omega) (by omega) fun v' w' h1 h2 h3 => ?_
    · intro j y hj
      obtain ⟨b', off', e, -, hc'⟩ := hc j y hj
      cases e
      rw [Addr.add_lit]
      exact hc'
    · intro y hy
      obtain ⟨z, rfl, -⟩ := hw y hy
      rfl
    · exact h v' w' ⟨by rw [List.length_append]; exact h1, by simp; omega⟩ ((Below.refl _ _).grown h2 hB fun k hk => (OwnS.lt hown k hk).1)

theorem own_u8_empty (w : World) (B : Nat) (hB : B ≤ w.heap.size) : OwnS (w.alloc (.cells #[] 5)) B 5 (.slice (some ⟨w.heap.size, 0, none⟩) 0 0) [] :=
  ⟨by simpa using World.ownsRow_made w #[] 0 hB (Nat.zero_le _) (by simp), by simp⟩
theorem sl_one {w : World} {u : Value} {T : TypeId} : Sl (w.alloc (.cells #[u] T)) (.slice (some ⟨w.heap.size, 0, none⟩) 1 1) [u] := by
  refine ⟨_, 1, rfl, by simp, fun j y hj => ⟨w.heap.size, 0, rfl, by simp, ?_⟩⟩
  have : j = 0 := by have := (List.getElem?_eq_some_iff.1 hj).1; simpa using this
  subst this
  simp at hj
  subst hj
  rw [World.cell?_alloc_at _ _ _ _ rfl]
  rfl
theorem Sl.drop {w : World} {b off n cap k : Nat} {us : List Value} (h : Sl w (.slice (some ⟨b, off, none⟩) n cap) us) (hk : k ≤ n) : Sl w (.slice (some ⟨b, off + k, none⟩) (n - k) (cap - k)) (us.drop k) := by
  obtain ⟨a, c, e, hl, hc⟩ := h
  simp only [Value.slice.injEq] at e
  obtain ⟨rfl, rfl, rfl⟩ := e
  refine ⟨some ⟨b, off + k, none⟩, cap - k, by simp, by simp; omega, fun j u hu => ?_⟩
  rw [List.getElem?_drop] at hu
  obtain ⟨b', off', e, hb, hcell⟩ := hc (k + j) u hu
  cases e
  exact ⟨b, off + k, rfl, hb, by rw [Nat.add_assoc]; exact hcell⟩
theorem Sl.none {w : World} {X : Option Addr} {n c : Nat} (hn : n = 0) (h : c ≤ 9223372036854775807) : Sl w (.slice X n c) [] := ⟨X, c, by rw [hn]; rfl, by simpa using h, fun j u hu => by simp at hu⟩

theorem c_vBig (v : Value) (n : Nat) (w : World) (h : BytesV w v n) : Calls Try.prog 6 #[v] w fun e w' => e = .returned (.bool (decide (65536 < n))) ∧ w = w' := by
  obtain ⟨ad, cap, rfl, -, -⟩ := h
  have hd : decide ((n : Int) > 65536) = decide (65536 < n) := by simp; omega
  obtain ⟨b, hb⟩ : ∃ b, b = decide (65536 < n) := ⟨_, rfl⟩
  rw [← hb] at hd ⊢
  clear hb
  go_enter Try.func6, Try.ntmps6
  go_wp2
  go_ret
  exact ⟨rfl, rfl⟩

theorem IsU8.app {a b : List Value} (h : IsU8 a) (k : IsU8 b) : IsU8 (a ++ b) := fun u hu => (List.mem_append.1 hu).elim (h u) (k u)
set_option maxRecDepth 100000 in
set_option maxHeartbeats 2000000 in
theorem c_vCut (v : Value) (n k : Nat) (w : World) (h : BytesV w v n) (hn : n ≤ 65536) (hk : k < 200) :
    Calls Try.prog 11 #[v, .int .i64 (k : Int)] w fun e w' => ∃ v' m, e = .returned v' ∧ BytesV w' v' m ∧ m ≤ 65537 ∧ Below w.heap.size w w' := by
  obtain ⟨us, hl, h8, hs⟩ := h.sl
  obtain ⟨ad, cap, rfl, hc, hb⟩ := h
  have hE := (own_u8_empty w w.heap.size (Nat.le_refl _))
  have hA := (Below.refl w.heap.size w).alloc (Nat.le_refl _) (.cells #[] 5)
  have h80 : IsU8 [] := fun u hu => by cases hu
  by_cases hkn : k < n
  · have hd0 : decide ((k : Int) > (n : Int)) = false := by simp; omega
    obtain ⟨b, off, x, rfl, -, -, -⟩ := hb.2 0 (by omega)
    obtain ⟨m, hm⟩ : ∃ m, m = k := ⟨_, rfl⟩
    have hd := (hs.drop (k := m) (by omega)).below hA
    have h8d : IsU8 (us.drop m) := fun u hu => h8 u (List.mem_of_mem_drop hu)
    have h81 : IsU8 [Value.int .u8 (m : Int)] := fun u hu => by simp at hu; subst hu; exact ⟨_, rfl, by omega, by omega⟩
    have hdl : (us.drop m).length ≤ 65536 := by rw [List.length_drop]; omega
    have hcm : m < cap := by omega
    subst hm
    clear hb h8 hs
    go_enter Try.func11, Try.ntmps11
    go_wp2_with (at_builtin; first | (refine wp_append_u8s _ rfl _ _ rfl w.heap.size _ [] rfl hE _ (us.drop m) rfl hd h8d (by simp <;> omega) (by simp) ?_; intro v1 w1 hn1 hb1; have hn2 := Lib.hid (OwnS.below hn1 ((Below.refl w1.heap.size w1).alloc (Nat.le_refl _) (.cells #[.int .u8 (m : Int)] 5)) (Nat.le_refl _)); have hb2 := hA.trans hb1; have hs1 := hb2.size) | (refine wp_append_u8s _ rfl _ _ rfl w.heap.size _ ([] ++ us.drop m) rfl hn2.out _ [Value.int .u8 (m : Int)] rfl sl_one h81 (by simp <;> omega) (by simp <;> omega) ?_; intro v2 w2 hn3 hb3))
    have hbz := (hb2.trans (((Below.refl w1.heap.size w1).alloc (Nat.le_refl _) (.cells #[.int .u8 (m : Int)] 5)).mono hs1)).trans hb3
    go_ret
    exact ⟨_, _, rfl, OwnS.bytes hn3 (IsU8.app (by simpa using h8d) h81) (by simp <;> omega), by simp <;> omega, hbz⟩
  · obtain ⟨m, hm⟩ : ∃ m, m = n := ⟨_, rfl⟩
    have h81 : IsU8 [Value.int .u8 (m : Int)] := fun u hu => by simp at hu; subst hu; exact ⟨_, rfl, by omega, by omega⟩
    subst hm
    clear hb h8 hs
    by_cases hkm : k = m
    · subst hkm
      have hd0 : decide ((k : Int) > (k : Int)) = false := by simp
      obtain ⟨m, hm⟩ : ∃ m, m = k := ⟨_, rfl⟩
      subst hm
      by_cases hcm : cap = m
      · subst cap
        rcases ad with _ | ⟨b, off, s⟩
        · skip
          go_enter Try.func11, Try.ntmps11
          go_wp2_with (at_builtin; first | (refine wp_append_u8s _ rfl _ _ rfl w.heap.size _ [] rfl hE _ (([] : List Value)) rfl (Sl.none (by omega) (by omega)) h80 (by simp <;> omega) (by simp) ?_; intro v1 w1 hn1 hb1; have hn2 := Lib.hid (OwnS.below hn1 ((Below.refl w1.heap.size w1).alloc (Nat.le_refl _) (.cells #[.int .u8 (m : Int)] 5)) (Nat.le_refl _)); have hb2 := hA.trans hb1; have hs1 := hb2.size) | (refine wp_append_u8s _ rfl _ _ rfl w.heap.size _ ([] ++ ([] : List Value)) rfl hn2.out _ [Value.int .u8 (m : Int)] rfl sl_one h81 (by simp <;> omega) (by simp <;> omega) ?_; intro v2 w2 hn3 hb3))
          have hbz := (hb2.trans (((Below.refl w1.heap.size w1).alloc (Nat.le_refl _) (.cells #[.int .u8 (m : Int)] 5)).mono hs1)).trans hb3
          go_ret
          exact ⟨_, _, rfl, OwnS.bytes hn3 (IsU8.app (by simpa using h80) h81) (by simp <;> omega), by simp <;> omega, hbz⟩
        · skip
          go_enter Try.func11, Try.ntmps11
          go_wp2_with (at_builtin; first | (refine wp_append_u8s _ rfl _ _ rfl w.heap.size _ [] rfl hE _ (([] : List Value)) rfl (Sl.none (by omega) (by omega)) h80 (by simp <;> omega) (by simp) ?_; intro v1 w1 hn1 hb1; have hn2 := Lib.hid (OwnS.below hn1 ((Below.refl w1.heap.size w1).alloc (Nat.le_refl _) (.cells #[.int .u8 (m : Int)] 5)) (Nat.le_refl _)); have hb2 := hA.trans hb1; have hs1 := hb2.size) | (refine wp_append_u8s _ rfl _ _ rfl w.heap.size _ ([] ++ ([] : List Value)) rfl hn2.out _ [Value.int .u8 (m : Int)] rfl sl_one h81 (by simp <;> omega) (by simp <;> omega) ?_; intro v2 w2 hn3 hb3))
          have hbz := (hb2.trans (((Below.refl w1.heap.size w1).alloc (Nat.le_refl _) (.cells #[.int .u8 (m : Int)] 5)).mono hs1)).trans hb3
          go_ret
          exact ⟨_, _, rfl, OwnS.bytes hn3 (IsU8.app (by simpa using h80) h81) (by simp <;> omega), by simp <;> omega, hbz⟩
      · have hcm2 : m < cap := by omega
        rcases ad with _ | ⟨b, off, s⟩
        · skip
          go_enter Try.func11, Try.ntmps11
          go_wp2_with (at_builtin; first | (refine wp_append_u8s _ rfl _ _ rfl w.heap.size _ [] rfl hE _ (([] : List Value)) rfl (Sl.none (by omega) (by omega)) h80 (by simp <;> omega) (by simp) ?_; intro v1 w1 hn1 hb1; have hn2 := Lib.hid (OwnS.below hn1 ((Below.refl w1.heap.size w1).alloc (Nat.le_refl _) (.cells #[.int .u8 (m : Int)] 5)) (Nat.le_refl _)); have hb2 := hA.trans hb1; have hs1 := hb2.size) | (refine wp_append_u8s _ rfl _ _ rfl w.heap.size _ ([] ++ ([] : List Value)) rfl hn2.out _ [Value.int .u8 (m : Int)] rfl sl_one h81 (by simp <;> omega) (by simp <;> omega) ?_; intro v2 w2 hn3 hb3))
          have hbz := (hb2.trans (((Below.refl w1.heap.size w1).alloc (Nat.le_refl _) (.cells #[.int .u8 (m : Int)] 5)).mono hs1)).trans hb3
          go_ret
          exact ⟨_, _, rfl, OwnS.bytes hn3 (IsU8.app (by simpa using h80) h81) (by simp <;> omega), by simp <;> omega, hbz⟩
        · skip
          go_enter Try.func11, Try.ntmps11
          go_wp2_with (at_builtin; first | (refine wp_append_u8s _ rfl _ _ rfl w.heap.size _ [] rfl hE _ (([] : List Value)) rfl (Sl.none (by omega) (by omega)) h80 (by simp <;> omega) (by simp) ?_; intro v1 w1 hn1 hb1; have hn2 := Lib.hid (OwnS.below hn1 ((Below.refl w1.heap.size w1).alloc (Nat.le_refl _) (.cells #[.int .u8 (m : Int)] 5)) (Nat.le_refl _)); have hb2 := hA.trans hb1; have hs1 := hb2.size) | (refine wp_append_u8s _ rfl _ _ rfl w.heap.size _ ([] ++ ([] : List Value)) rfl hn2.out _ [Value.int .u8 (m : Int)] rfl sl_one h81 (by simp <;> omega) (by simp <;> omega) ?_; intro v2 w2 hn3 hb3))
          have hbz := (hb2.trans (((Below.refl w1.heap.size w1).alloc (Nat.le_refl _) (.cells #[.int .u8 (m : Int)] 5)).mono hs1)).trans hb3
          go_ret
          exact ⟨_, _, rfl, OwnS.bytes hn3 (IsU8.app (by simpa using h80) h81) (by simp <;> omega), by simp <;> omega, hbz⟩
    · have hd0 : decide ((k : Int) > (m : Int)) = true := by simp; omega
      by_cases hcm : cap = m
      · subst cap
        rcases ad with _ | ⟨b, off, s⟩
        · skip
          go_enter Try.func11, Try.ntmps11
          go_wp2_with (at_builtin; first | (refine wp_append_u8s _ rfl _ _ rfl w.heap.size _ [] rfl hE _ (([] : List Value)) rfl (Sl.none (by omega) (by omega)) h80 (by simp <;> omega) (by simp) ?_; intro v1 w1 hn1 hb1; have hn2 := Lib.hid (OwnS.below hn1 ((Below.refl w1.heap.size w1).alloc (Nat.le_refl _) (.cells #[.int .u8 (m : Int)] 5)) (Nat.le_refl _)); have hb2 := hA.trans hb1; have hs1 := hb2.size) | (refine wp_append_u8s _ rfl _ _ rfl w.heap.size _ ([] ++ ([] : List Value)) rfl hn2.out _ [Value.int .u8 (m : Int)] rfl sl_one h81 (by simp <;> omega) (by simp <;> omega) ?_; intro v2 w2 hn3 hb3))
          have hbz := (hb2.trans (((Below.refl w1.heap.size w1).alloc (Nat.le_refl _) (.cells #[.int .u8 (m : Int)] 5)).mono hs1)).trans hb3
          go_ret
          exact ⟨_, _, rfl, OwnS.bytes hn3 (IsU8.app (by simpa using h80) h81) (by simp <;> omega), by simp <;> omega, hbz⟩
        · skip
          go_enter Try.func11, Try.ntmps11
          go_wp2_with (at_builtin; first | (refine wp_append_u8s _ rfl _ _ rfl w.heap.size _ [] rfl hE _ (([] : List Value)) rfl (Sl.none (by omega) (by omega)) h80 (by simp <;> omega) (by simp) ?_; intro v1 w1 hn1 hb1; have hn2 := Lib.hid (OwnS.below hn1 ((Below.refl w1.heap.size w1).alloc (Nat.le_refl _) (.cells #[.int .u8 (m : Int)] 5)) (Nat.le_refl _)); have hb2 := hA.trans hb1; have hs1 := hb2.size) | (refine wp_append_u8s _ rfl _ _ rfl w.heap.size _ ([] ++ ([] : List Value)) rfl hn2.out _ [Value.int .u8 (m : Int)] rfl sl_one h81 (by simp <;> omega) (by simp <;> omega) ?_; intro v2 w2 hn3 hb3))
          have hbz := (hb2.trans (((Below.refl w1.heap.size w1).alloc (Nat.le_refl _) (.cells #[.int .u8 (m : Int)] 5)).mono hs1)).trans hb3
          go_ret
          exact ⟨_, _, rfl, OwnS.bytes hn3 (IsU8.app (by simpa using h80) h81) (by simp <;> omega), by simp <;> omega, hbz⟩
      · have hcm2 : m < cap := by omega
        rcases ad with _ | ⟨b, off, s⟩
        · skip
          go_enter Try.func11, Try.ntmps11
          go_wp2_with (at_builtin; first | (refine wp_append_u8s _ rfl _ _ rfl w.heap.size _ [] rfl hE _ (([] : List Value)) rfl (Sl.none (by omega) (by omega)) h80 (by simp <;> omega) (by simp) ?_; intro v1 w1 hn1 hb1; have hn2 := Lib.hid (OwnS.below hn1 ((Below.refl w1.heap.size w1).alloc (Nat.le_refl _) (.cells #[.int .u8 (m : Int)] 5)) (Nat.le_refl _)); have hb2 := hA.trans hb1; have hs1 := hb2.size) | (refine wp_append_u8s _ rfl _ _ rfl w.heap.size _ ([] ++ ([] : List Value)) rfl hn2.out _ [Value.int .u8 (m : Int)] rfl sl_one h81 (by simp <;> omega) (by simp <;> omega) ?_; intro v2 w2 hn3 hb3))
          have hbz := (hb2.trans (((Below.refl w1.heap.size w1).alloc (Nat.le_refl _) (.cells #[.int .u8 (m : Int)] 5)).mono hs1)).trans hb3
          go_ret
          exact ⟨_, _, rfl, OwnS.bytes hn3 (IsU8.app (by simpa using h80) h81) (by simp <;> omega), by simp <;> omega, hbz⟩
        · skip
          go_enter Try.func11, Try.ntmps11
          go_wp2_with (at_builtin; first | (refine wp_append_u8s _ rfl _ _ rfl w.heap.size _ [] rfl hE _ (([] : List Value)) rfl (Sl.none (by omega) (by omega)) h80 (by simp <;> omega) (by simp) ?_; intro v1 w1 hn1 hb1; have hn2 := Lib.hid (OwnS.below hn1 ((Below.refl w1.heap.size w1).alloc (Nat.le_refl _) (.cells #[.int .u8 (m : Int)] 5)) (Nat.le_refl _)); have hb2 := hA.trans hb1; have hs1 := hb2.size) | (refine wp_append_u8s _ rfl _ _ rfl w.heap.size _ ([] ++ ([] : List Value)) rfl hn2.out _ [Value.int .u8 (m : Int)] rfl sl_one h81 (by simp <;> omega) (by simp <;> omega) ?_; intro v2 w2 hn3 hb3))
          have hbz := (hb2.trans (((Below.refl w1.heap.size w1).alloc (Nat.le_refl _) (.cells #[.int .u8 (m : Int)] 5)).mono hs1)).trans hb3
          go_ret
          exact ⟨_, _, rfl, OwnS.bytes hn3 (IsU8.app (by simpa using h80) h81) (by simp <;> omega), by simp <;> omega, hbz⟩
end Go.Proofs.Ytjeaeninpmaoiaa
/- Sums of a pair's box: the program's side; conditions: none. -/
namespace Go.Proofs.Ytjeaeninpmaoiaa
open Go.RowKit

set_option maxHeartbeats 2000000 in
theorem c_agreement (v : Value) (r : BoxD) (q : Nat) (hq : q < 4) (w : World) (hp : pairB r = true) (h : Ints w v (rowB r q)) :
    Calls Try.prog 112 #[v] w fun e w' => e = .returned (.int .i64 (agV r q)) ∧ Below w.heap.size w w' := by
  obtain ⟨hb, hs, h1, h2⟩ := pair_row hp q hq
  obtain ⟨hbb, -, -, hlen⟩ := pairB_facts hp
  obtain ⟨bl, off, cap, rfl, hbl, c0, c1, c2, c3⟩ := row_cells h (boxB_row hbb (show q < r.r.length by omega)).1
  have b0 := hb 0
  have b1 := hb 1
  have b2 := hb 2
  have b3 := hb 3
  have hF : Hid (agV r q = cellB r q 0 - cellB r q 1 - cellB r q 2 + cellB r q 3) := Lib.hid rfl
  obtain ⟨x0, e0⟩ : ∃ z, z = cellB r q 0 := ⟨_, rfl⟩
  obtain ⟨x1, e1⟩ : ∃ z, z = cellB r q 1 := ⟨_, rfl⟩
  obtain ⟨x2, e2⟩ : ∃ z, z = cellB r q 2 := ⟨_, rfl⟩
  obtain ⟨x3, e3⟩ : ∃ z, z = cellB r q 3 := ⟨_, rfl⟩
  rw [← e0] at c0 b0 hF
  rw [← e1] at c1 b1 hF
  rw [← e2] at c2 b2 hF
  rw [← e3] at c3 b3 hF
  clear hb hs e0 e1 e2 e3 hp h hbb
  go_enter Try.func112, Try.ntmps112
  go_wp2_with fail
  go_quiet (fail)
  all_goals go_wp2
  go_ret
  exact ⟨by rw [hF.out]; rfl, by first | exact below_drewN (Below.refl _ _) _ | exact Below.refl _ _⟩
set_option maxHeartbeats 2000000 in
theorem c_four (w : World) : Calls Try.prog 111 #[.int .i64 2, .agg #[.int .i64 0, .int .i64 1], .agg #[.int .i64 0, .int .i64 1]] w fun e w' => e = .returned (.agg #[.int .i64 0, .int .i64 1, .int .i64 2, .int .i64 3]) ∧ Below w.heap.size w w' := by
  go_enter Try.func111, Try.ntmps111
  go_wp2
  refine bodyPost_ret (v := .agg #[.int .i64 0, .int .i64 1, .int .i64 2, .int .i64 3]) (by simp [results, Try.results111, go_sem]) rfl ⟨rfl, (((Below.refl _ _).alloc (Nat.le_refl _) _).alloc (by simp) _).alloc (by simp; omega) _⟩
set_option maxRecDepth 100000 in
theorem ix40 (w : World) : Sem.run Try.prog (Instr.index 106 (.agg #[.int .i64 0, .int .i64 1, .int .i64 2, .int .i64 3]) (.int .i64 0)) w = .ok (.int .i64 0) w := by rfl
set_option maxRecDepth 100000 in
theorem ix41 (w : World) : Sem.run Try.prog (Instr.index 106 (.agg #[.int .i64 0, .int .i64 1, .int .i64 2, .int .i64 3]) (.int .i64 1)) w = .ok (.int .i64 1) w := by rfl
set_option maxRecDepth 100000 in
theorem ix42 (w : World) : Sem.run Try.prog (Instr.index 106 (.agg #[.int .i64 0, .int .i64 1, .int .i64 2, .int .i64 3]) (.int .i64 2)) w = .ok (.int .i64 2) w := by rfl
set_option maxRecDepth 100000 in
theorem ix43 (w : World) : Sem.run Try.prog (Instr.index 106 (.agg #[.int .i64 0, .int .i64 1, .int .i64 2, .int .i64 3]) (.int .i64 3)) w = .ok (.int .i64 3) w := by rfl
theorem ix4 (k : Nat) (hk : k < 4) (w : World) : Sem.run Try.prog (Instr.index 106 (.agg #[.int .i64 0, .int .i64 1, .int .i64 2, .int .i64 3]) (.int .i64 (k : Int))) w = .ok (.int .i64 (k : Int)) w := by
  have h : k = 0 ∨ k = 1 ∨ k = 2 ∨ k = 3 := by omega
  rcases h with rfl | rfl | rfl | rfl
  · exact ix40 w
  · exact ix41 w
  · exact ix42 w
  · exact ix43 w
/-- the first k parts of a sum -/
def psB (r : BoxD) (m : Nat) : Nat → Int
  | 0 => 0
  | k + 1 => psB r m k + if k = m then - agV r k else agV r k
theorem psB_four (r : BoxD) (m : Nat) : psB r m 4 = sumB r m := by
  unfold sumB
  simp only [psB]
  have e : ∀ k : Nat, (if k = m then - agV r k else agV r k) = if m = k then - agV r k else agV r k := fun k => by
    by_cases h : k = m
    · rw [if_pos h, if_pos h.symm]
    · rw [if_neg h, if_neg fun x => h x.symm]
  rw [e, e, e, e]
  omega
theorem ag_bound {r : BoxD} (h : pairB r = true) (q : Nat) (hq : q < 4) : -1000 ≤ agV r q ∧ agV r q ≤ 1000 := by
  obtain ⟨hb, hs, h1, h2⟩ := pair_row h q hq
  have b0 := hb 0; have b1 := hb 1; have b2 := hb 2; have b3 := hb 3
  unfold agV
  omega
theorem ps_bound {r : BoxD} (h : pairB r = true) (m : Nat) : ∀ k : Nat, k ≤ 4 → -(1000 * (k : Int)) ≤ psB r m k ∧ psB r m k ≤ 1000 * (k : Int)
  | 0, _ => by simp [psB]
  | k + 1, hk => by
    have h1 := ps_bound h m k (by omega)
    have h2 := ag_bound h k (by omega)
    simp only [psB]
    split <;> omega
set_option maxRecDepth 100000 in
set_option maxHeartbeats 4000000 in
theorem c_sumI (v : Value) (r : BoxD) (m : Nat) (w : World) (h : BoxR w v r) (hp : pairB r = true) :
    Calls Try.prog 85 #[v, .agg #[.int .i64 0, .int .i64 1], .agg #[.int .i64 0, .int .i64 1], .int .i64 m] w fun e w' => e = .returned (.int .i64 (sumB r m)) ∧ Below w.heap.size w w' := by
  obtain ⟨hbb, hxx, hyy, hlen⟩ := pairB_facts hp
  obtain ⟨rv, rfl, hr⟩ := id h
  obtain ⟨da, ka, rfl, hla⟩ := hr.out
  have hps := Lib.hid (fun k hk => ps_bound hp m k hk)
  have hag := Lib.hid (fun k hk => ag_bound hp k hk)
  have hrow4 : ∀ q, q < 4 → ∃ (hq : q < r.r.length), rowB r q = r.r[q] := fun q hq => ⟨by omega, by simp [rowB, show q < r.r.length by omega]⟩
  replace hrow4 := Lib.hid hrow4
  rw [hxx, hyy, hlen] at h ⊢
  have hA0 := (((Below.refl w.heap.size w).alloc (Nat.le_refl _) (.cells #[.int .i64 2, .int .i64 2, .int .i64 r.w, .slice da 4 ka] 50)).alloc (by simp) (.cells #[.int .i64 0, .int .i64 1] 48)).alloc (by simp; omega) (.cells #[.int .i64 0, .int .i64 1] 48)
  have pB : (((w.alloc (.cells #[.int .i64 2, .int .i64 2, .int .i64 r.w, .slice da 4 ka] 50)).alloc (.cells #[.int .i64 0, .int .i64 1] 48)).alloc (.cells #[.int .i64 0, .int .i64 1] 48)).heap[w.heap.size]? = some (.cells #[.int .i64 2, .int .i64 2, .int .i64 r.w, .slice da 4 ka] 50 (0, 0)) := by rw [heap_alloc_old _ _ (by simp; omega), heap_alloc_old _ _ (by simp)]; exact heap_alloc_at rfl
  go_enter Try.func85, Try.ntmps85
  go_wp2_with fail
  refine (c_four _).mono ?_
  rintro e w1 ⟨rfl, hb1⟩
  have pW := blk_later hb1 pB
  have hB := bstep hA0 hb1
  clear hb1 hA0 pB
  go_wp2_with fail
  go_loopw [9, 17] (fun s i wr => ∃ k : Nat, k ≤ 4 ∧ i = .int .i64 k ∧ s = .int .i64 (psB r m k) ∧ Below w1.heap.size w1 wr) (fun _ i _ => 4 - (intOf i).toNat)
  case atStart => exact ⟨0, by omega, rfl, rfl, Below.refl _ _⟩
  case round =>
    obtain ⟨k, hk, rfl, rfl, hBr⟩ := hrel
    have hall := bstep hB hBr
    have pR := blk_later hBr pW
    obtain ⟨⟨z0, z1, z2, z3⟩, -⟩ := blk4 pR
    by_cases hk4 : k < 4
    · have b1 := hps.out k hk
      have b2 := hag.out k hk4
      obtain ⟨hq, hrow⟩ := hrow4.out k hk4
      obtain ⟨bl, off, a0, c0, rfl, hbl, hcell, hi0⟩ := (hr.below hall).at k hq
      rw [← hrow] at hcell hi0
      have hps2 : psB r m (k + 1) = psB r m k + if k = m then - agV r k else agV r k := rfl
      obtain ⟨ps, hps'⟩ : ∃ z, z = psB r m k := ⟨_, rfl⟩
      rw [← hps'] at b1 hps2 ⊢
      replace hps' := Lib.hid hps'
      have hag2 : ∀ wn, Below wr.heap.size wr wn → Calls Try.prog 112 #[.slice a0 (rowB r k).length c0] wn fun e w' => e = .returned (.int .i64 (agV r k)) ∧ Below wn.heap.size wn w' := fun wn hbn => c_agreement _ r k hk4 wn hp (hi0.below hbn)
      obtain ⟨ag, hag'⟩ : ∃ z, z = agV r k := ⟨_, rfl⟩
      rw [← hag'] at b2 hps2
      replace hag' := Lib.hid hag'
      obtain ⟨ll, hll⟩ : ∃ z, z = (rowB r k).length := ⟨_, rfl⟩
      rw [← hll] at hcell hag2
      rw [← hag'.out] at hag2
      replace hag2 := Lib.hid hag2
      clear hi0 hrow hll
      obtain ⟨wo, rfl⟩ : ∃ wo : World, wo = wr := ⟨_, rfl⟩
      have hix2 := ix4 k hk4
      by_cases hkm : k = m
      · have hd : ((k : Int) == (m : Int)) = true := by simp; omega
        rw [if_pos hkm] at hps2
        replace hps2 := Lib.hid hps2
        replace hkm := Lib.hid hkm
        go_wp2_with fail
        refine (hag2.out _ (Below.refl _ _)).mono ?_
        rintro e w6 ⟨rfl, hb6⟩
        go_wp2
        go_roundw
        case rel => exact ⟨k + 1, by omega, by simp, by first | (rw [hps2.out]; done) | (rw [hps2.out]; rfl), bstep hBr hb6⟩
        case measure => simp [intOf]; omega
      · have hd : ((k : Int) == (m : Int)) = false := by simp; omega
        rw [if_neg hkm] at hps2
        replace hps2 := Lib.hid hps2
        replace hkm := Lib.hid hkm
        go_wp2_with fail
        refine (hag2.out _ (Below.refl _ _)).mono ?_
        rintro e w6 ⟨rfl, hb6⟩
        go_wp2
        go_roundw
        case rel => exact ⟨k + 1, by omega, by simp, by first | (rw [hps2.out]; done) | (rw [hps2.out]; rfl), bstep hBr hb6⟩
        case measure => simp [intOf]; omega
    · have hk5 : k = 4 := by omega
      subst hk5
      have hd : ¬ ((4 : Int) < 4) := by omega
      go_wp2_with fail
      go_ret
      exact ⟨by rw [← psB_four]; rfl, bstep hB hBr⟩
end Go.Proofs.Ytjeaeninpmaoiaa
/- SumOf, greatest and IsLocal for a pair's box: the program's side; conditions: none. -/
namespace Go.Proofs.Ytjeaeninpmaoiaa
open Go.RowKit

theorem blk2J {w : World} {b : Nat} {v1 v2 : Value} {t : TypeId} (h : w.heap[b]? = some (.cells #[v1, v2] t (0, 0))) :
    (w.cell? ⟨b, 0, none⟩ = some v1 ∧ w.cell? ⟨b, 1, none⟩ = some v2) ∧ (w.frozen? ⟨b, 0, none⟩ = false ∧ w.frozen? ⟨b, 1, none⟩ = false) := by
  refine ⟨⟨?_, ?_⟩, ?_, ?_⟩ <;> simp [World.cell?, World.frozen?, h]
set_option maxHeartbeats 2000000 in
theorem c_isSum (w : World) : Calls Try.prog 84 #[.int .i64 2, .int .i64 2, .agg #[.int .i64 0, .int .i64 1], .agg #[.int .i64 0, .int .i64 1], .int .i64 3] w fun e w' => e = .returned (.bool true) ∧ Below w.heap.size w w' := by
  go_enter Try.func84, Try.ntmps84
  go_wp2_with fail
  refine (c_within _ _ _ _).mono ?_
  rintro e _ ⟨rfl, rfl⟩
  rw [show inB 0 3 3 = true by decide]
  go_wp2
  go_ret
  exact ⟨rfl, ((Below.refl _ _).alloc (Nat.le_refl _) _).alloc (by simp) _⟩
set_option maxRecDepth 100000 in
set_option maxHeartbeats 4000000 in
theorem c_SumOf (v : Value) (r : BoxD) (w : World) (h : BoxR w v r) (hp : pairB r = true) :
    Calls Try.prog 43 #[v, .agg #[.int .i64 0, .int .i64 1], .agg #[.int .i64 0, .int .i64 1], .int .i64 3] w fun e w' => e = .returned (.tuple #[.int .i64 (sumB r 3), .bool true]) ∧ Below w.heap.size w w' := by
  obtain ⟨hbb, hxx, hyy, hlen⟩ := pairB_facts hp
  have h2 := h
  obtain ⟨v4, rfl, hr⟩ := id h
  obtain ⟨a4, k4, rfl, l4⟩ := hr.out
  have hA := (Below.refl w.heap.size w).alloc (Nat.le_refl _) (.cells #[.int .i64 r.x, .int .i64 r.y, .int .i64 r.w, .slice a4 r.r.length k4] 50)
  have pB : (w.alloc (.cells #[.int .i64 r.x, .int .i64 r.y, .int .i64 r.w, .slice a4 r.r.length k4] 50)).heap[w.heap.size]? = some (.cells #[.int .i64 r.x, .int .i64 r.y, .int .i64 r.w, .slice a4 r.r.length k4] 50 (0, 0)) := heap_alloc_at rfl
  rw [hxx, hyy, show ((2 : Nat) : Int) = 2 from rfl] at hA pB h2 ⊢
  replace hA := (hA.alloc (by simp) (.cells #[.int .i64 0, .int .i64 1] 48)).alloc (by simp; omega) (.cells #[.int .i64 0, .int .i64 1] 48)
  have pC : (((w.alloc (.cells #[.int .i64 2, .int .i64 2, .int .i64 r.w, .slice a4 r.r.length k4] 50)).alloc (.cells #[.int .i64 0, .int .i64 1] 48)).alloc (.cells #[.int .i64 0, .int .i64 1] 48)).heap[w.heap.size]? = some (.cells #[.int .i64 2, .int .i64 2, .int .i64 r.w, .slice a4 r.r.length k4] 50 (0, 0)) := by rw [heap_alloc_old _ _ (by simp; omega), heap_alloc_old _ _ (by simp)]; exact heap_alloc_at rfl
  have pD : (((w.alloc (.cells #[.int .i64 2, .int .i64 2, .int .i64 r.w, .slice a4 r.r.length k4] 50)).alloc (.cells #[.int .i64 0, .int .i64 1] 48)).alloc (.cells #[.int .i64 0, .int .i64 1] 48)).heap[w.heap.size + 1]? = some (.cells #[.int .i64 0, .int .i64 1] 48 (0, 0)) := by rw [heap_alloc_old _ _ (by simp)]; exact heap_alloc_at (by simp)
  have pE : (((w.alloc (.cells #[.int .i64 2, .int .i64 2, .int .i64 r.w, .slice a4 r.r.length k4] 50)).alloc (.cells #[.int .i64 0, .int .i64 1] 48)).alloc (.cells #[.int .i64 0, .int .i64 1] 48)).heap[w.heap.size + 1 + 1]? = some (.cells #[.int .i64 0, .int .i64 1] 48 (0, 0)) := heap_alloc_at (by simp)
  clear pB
  replace hxx := Lib.hid hxx
  replace hyy := Lib.hid hyy
  replace hlen := Lib.hid hlen
  replace hbb := Lib.hid hbb
  obtain ⟨⟨z0, z1, z2, z3⟩, -⟩ := blk4 pC
  go_enter Try.func43, Try.ntmps43
  go_wp2_with fail
  refine (c_IsBox _ r _ (h2.below hA)).mono ?_
  clear z0 z1 z2 z3
  rintro e w2 ⟨rfl, hB⟩
  rw [hbb.out]
  obtain ⟨⟨y0, y1⟩, -⟩ := blk2J (blk_later hB pD)
  obtain ⟨⟨x0, x1⟩, -⟩ := blk2J (blk_later hB pE)
  obtain ⟨⟨z0, z1, z2, z3⟩, -⟩ := blk4 (blk_later hB pC)
  go_wp2_with fail
  refine (c_isSum _).mono ?_
  rintro e w3 ⟨rfl, hC⟩
  clear z0 z1 z2 z3 y0 y1 x0 x1
  obtain ⟨⟨y0, y1⟩, -⟩ := blk2J (blk_later hC (blk_later hB pD))
  obtain ⟨⟨x0, x1⟩, -⟩ := blk2J (blk_later hC (blk_later hB pE))
  obtain ⟨⟨z0, z1, z2, z3⟩, -⟩ := blk4 (blk_later hC (blk_later hB pC))
  go_wp2_with fail
  refine (c_sumI _ r 3 _ (((h2.below hA).below hB).below hC) hp).mono ?_
  rintro e w4 ⟨rfl, hD⟩
  go_wp2
  go_ret2
  exact ⟨rfl, bstep (bstep (bstep hA hB) hC) hD⟩
end Go.Proofs.Ytjeaeninpmaoiaa
/- pairs(2): the list of one pair; conditions: none. -/
namespace Go.Proofs.Ytjeaeninpmaoiaa
open Go.RowKit

/-- out = append(out, pair): the world in which the new pair has been laid -/
theorem wp_append_pr2 {ops : Array Oper} {rest : List Oper} {o : Oper} {a : Act} {Q : Exit → Act → World → Prop} (w : World) (x y : Int) (hgd : o.guard = none) (s e : Operand)
    (ho : o.op = .call { callee := .builtin .append, args := #[s, e], argTypes := #[43, 43] }) (B : Nat) (v : Value) (ps : List (Int × Int)) (hs : a.eval s = v) (hown : OwnPr w B v ps)
    {g : Nat} (hx : a.eval e = .slice (some ⟨g, 0, none⟩) 1 1) (hg : g = w.heap.size) (hlen : ps.length < 1099511627776) (hB : B ≤ w.heap.size)
    (h : ∀ v' w', OwnPr w' B v' (ps ++ [(x, y)]) → w.grownBy w' v.ownBlock → Below B w w' → wpList Try.prog ops Q rest (a.put o.dst v') w') :
    wpList Try.prog ops Q (o :: rest) a (w.alloc (.cells #[.int .i64 x, .int .i64 y] 48)) := by
  subst hg
  obtain ⟨i0, hi, hz0, hz1, hz2⟩ := info_parts info_pair
  have hal := World.grownBy_alloc w (.cells #[.int .i64 x, .int .i64 y] 48) none
  refine wpList_append_own _ hgd s e 43 ho B 48 i0 _ 2 16 Try.underlying43 hi hz0 hz1 hz2 rfl (by decide) v ps.length ((flat ps).map (Value.int .i64)) hs (hown.1.alloc _) ⟨w.heap.size, 0, none⟩ 1 1 [.int .i64 x, .int .i64 y] hx rfl ?_ ?_
    (by unfold maxLen; omega) (by omega) (by simp; omega) fun v' w' h1 h2 h3 => ?_
  · intro j u hu
    rw [Addr.add_lit, World.cell?_alloc_at _ _ _ _ rfl]
    rcases j with _ | _ | j
    · simpa using hu
    · simpa using hu
    · simp at hu
  · intro u hu
    simp at hu
    rcases hu with rfl | rfl <;> rfl
  · have hgr := grown_trans hal h2
    refine h v' w' ⟨?_, by simp; omega⟩ hgr ((Below.refl _ _).grown hgr hB fun k hk => (OwnD.lt hown k hk).1)
    have e : (flat (ps ++ [(x, y)])).map (Value.int .i64) = (flat ps).map (Value.int .i64) ++ [.int .i64 x, .int .i64 y] := by rw [flat_app]; simp [flat]
    rw [e]
    simpa using h1
theorem ownPr_empty2 (w : World) (B : Nat) (hB : B ≤ w.heap.size) : OwnPr (w.alloc (.cells #[] 48)) B (.slice (some ⟨w.heap.size, 0, none⟩) 0 0) [] :=
  ⟨by simpa [flat] using World.ownsRow_made w #[] 0 hB (Nat.zero_le _) (by simp), by simp⟩

set_option maxRecDepth 100000 in
set_option maxHeartbeats 4000000 in
theorem c_pairs2 (w : World) : Calls Try.prog 120 #[.int .i64 2] w fun e w' => ∃ v', e = .returned v' ∧ Pairs w' v' [(0, 1)] ∧ Below w.heap.size w w' := by
  have hA := (Below.refl w.heap.size w).alloc (Nat.le_refl _) (.cells #[] 48)
  have hO := Lib.hid (ownPr_empty2 w w.heap.size (Nat.le_refl _))
  go_enter Try.func120, Try.ntmps120
  go_wp2_with fail
  go_loopw [3, 8] (fun o i wr => ∃ k : Nat, k ≤ 2 ∧ i = .int .i64 k ∧ OwnPr wr w.heap.size o (if k = 0 then [] else [(0, 1)]) ∧ Below w.heap.size w wr) (fun _ i _ => 2 - (intOf i).toNat)
  case atStart => exact ⟨0, by omega, rfl, hO.out, hA⟩
  case round =>
    obtain ⟨k, hk, rfl, hown, hB⟩ := hrel
    by_cases hk2 : k < 2
    · go_wp2_with fail
      go_loopw [3, 5] (fun o i wr => ∃ j : Nat, (1 ≤ j ∧ j ≤ 2) ∧ i = .int .i64 j ∧ (j = 1 → k = 0) ∧ OwnPr wr w.heap.size o (if j = 1 then [] else [(0, 1)]) ∧ Below w.heap.size w wr) (fun _ i _ => 2 - (intOf i).toNat)
      case atStart => exact ⟨k + 1, by omega, by go_num, by omega, by simpa using hown, hB⟩
      case round =>
        clear hown hB
        obtain ⟨j, hj, rfl, hjk, hown, hB⟩ := hrel
        by_cases hj2 : j < 2
        · obtain rfl : j = 1 := by omega
          obtain rfl := hjk rfl
          have hown2 := hown
          rw [if_pos rfl] at hown2
          have hsz := hB.size
          go_wp2_with (at_builtin; refine wp_append_pr2 _ _ _ rfl _ _ rfl w.heap.size _ [] rfl hown2 rfl (by first | rfl | simp) (by simp) (by omega) ?_; intro v' w2 hown3 _ hB3)
          go_roundw
          case rel => exact ⟨2, by omega, by go_num, by simpa using hown3, hB.trans hB3⟩
          case measure => simp [intOf]
        · obtain rfl : j = 2 := by omega
          go_wp2
          go_roundw
          case rel => exact ⟨k + 1, by omega, by go_num, by simpa using hown, hB⟩
          case measure => simp [intOf]; omega
    · obtain rfl : k = 2 := by omega
      go_wp2
      go_ret
      exact ⟨_, rfl, OwnPr.pairs (by simpa using hown), hB⟩
end Go.Proofs.Ytjeaeninpmaoiaa
