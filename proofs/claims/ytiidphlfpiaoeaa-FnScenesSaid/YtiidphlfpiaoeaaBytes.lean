/- Slices of bytes: appending, cutting, what comes in; conditions: none. -/
import Derived.Test.YtiidphlfpiaoeaaCur
import Derived.Test.YtiidphlfpiaoeaaAppG
import Derived.Test.YtiidphlfpiaoeaaOwn
namespace Go.Proofs.Ytiidphlfpiaoeaa
open Go.RowKit

theorem info_u8 : (Try.prog.info? 5).map (fun i => (i.zero, i.size, i.bytes)) = some (some (.int .u8 0), 1, 1) := by kernel_rfl
def IsU8 (us : List Value) : Prop := ∀ u ∈ us, ∃ x, u = .int .u8 x ∧ 0 ≤ x ∧ x < 256
theorem BytesV.sl {w : World} {v : Value} {n : Nat} (h : BytesV w v n) : ∃ us, us.length = n ∧ IsU8 us ∧ Sl w v us := by
  obtain ⟨ad, cap, rfl, hc, hn, hb⟩ := h
  refine ⟨(List.range n).map (fun i => match ad with | some ⟨b, off, none⟩ => (w.cell? ⟨b, off + i, none⟩).getD (.int .u8 0) | _ => .int .u8 0), by simp, ?_, ad, cap, by simp, by simpa using hc, fun j u hu => ?_⟩
  · intro u hu
    obtain ⟨i, hi, rfl⟩ := List.mem_map.1 hu
    obtain ⟨b, off, x, rfl, -, hcell, h0⟩ := hb i (List.mem_range.1 hi)
    exact ⟨x, by simp [hcell], h0⟩
  · simp only [List.getElem?_map, Option.map_eq_some_iff] at hu
    obtain ⟨i, hi, rfl⟩ := hu
    obtain ⟨hj, rfl⟩ := List.getElem?_eq_some_iff.1 hi
    simp only [List.length_range] at hj
    simp only [List.getElem_range]
    obtain ⟨b, off, x, rfl, hbl, hcell, h0⟩ := hb j hj
    exact ⟨b, off, rfl, hbl, by simp [hcell]⟩
theorem OwnS.bytes {w : World} {B : Nat} {v : Value} {us : List Value} (h : OwnS w B 5 v us) (hu : IsU8 us) (hl : us.length < 140737488355328) : BytesV w v us.length := by
  obtain ⟨a, cap, rfl, hc, hat⟩ := h.sl
  refine ⟨a, cap, rfl, hc, by omega, fun i hi => ?_⟩
  obtain ⟨b, off, e, hb, hcell⟩ := hat i us[i] (List.getElem?_eq_getElem hi)
  obtain ⟨x, hx, h0⟩ := hu _ (List.getElem_mem hi)
  exact ⟨b, off, x, e, hb, by rw [hcell, hx], h0⟩

/-- out = append(out, bytes...) -/
theorem wp_append_u8s {ops : Array Oper} {rest : List Oper} {o : Oper} {a : Act} {Q : Exit → Act → World → Prop} (w : World) (hgd : o.guard = none) (s x : Operand)
    (ho : o.op = .call { callee := .builtin .append, args := #[s, x], argTypes := #[34, 34] }) (B : Nat) (v : Value) (us : List Value) (hs : a.eval s = v) (hown : OwnS w B 5 v us)
    (u : Value) (ys : List Value) (hx : a.eval x = u) (hy : Sl w u ys) (hw : IsU8 ys) (hlen : us.length + ys.length ≤ 1099511627776) (hB : B ≤ w.heap.size)
    (h : ∀ v' w', OwnS w' B 5 v' (us ++ ys) → Below B w w' → wpList Try.prog ops Q rest (a.put o.dst v') w') :
    wpList Try.prog ops Q (o :: rest) a w := by
  obtain ⟨ad, cap, rfl, hl, hc⟩ := hy
  obtain ⟨i0, hi, hz0, hz1, hz2⟩ := info_parts info_u8
  by_cases h0 : ys.length = 0
  · have : ys = [] := List.length_eq_zero_iff.1 h0
    subst this
    cases ad with
    | none =>
      refine wp_append_nothing hgd s x 34 ho B 5 i0 1 Try.underlying34 hi v us.length cap us hs (by simpa using hown.1) (by simpa using hx) ?_
      exact h v w (by simpa using hown) (Below.refl _ _)
    | some ad =>
      refine wpList_append_own _ hgd s x 34 ho B 5 i0 _ 1 1 Try.underlying34 hi hz0 hz1 hz2 rfl (by decide) v us.length us hs hown.1 ad 0 cap [] (by simpa using hx) rfl (by simp) (by simp)
        (by unfold maxLen; omega) (by omega) (by omega) fun v' w' h1 h2 h3 => ?_
      exact h v' w' ⟨by simpa using h1, by simp; omega⟩ ((Below.refl _ _).grown h2 hB fun k hk => (OwnS.lt hown k hk).1)
  · obtain ⟨b, off, rfl, -, -⟩ := hc 0 ys[0] (List.getElem?_eq_getElem (by omega))
    refine wpList_append_own _ hgd s x 34 ho B 5 i0 _ 1 1 Try.underlying34 hi hz0 hz1 hz2 rfl (by decide) v us.length us hs hown.1 ⟨b, off, none⟩ ys.length cap ys hx (by omega) ?_ ?_
      (by unfold maxLen; omega) (by omega) (by omega) fun v' w' h1 h2 h3 => ?_
    · intro j y hj
      obtain ⟨b', off', e, -, hc'⟩ := hc j y hj
      cases e
      rw [Addr.add_lit]
      exact hc'
    · intro y hy
      obtain ⟨z, rfl, -⟩ := hw y hy
      rfl
    · exact h v' w' ⟨by rw [List.length_append]; exact h1, by simp; omega⟩ ((Below.refl _ _).grown h2 hB fun k hk => (OwnS.lt hown k hk).1)

theorem own_u8_empty (w : World) (B : Nat) (hB : B ≤ w.heap.size) : OwnS (w.alloc (.cells #[] 5)) B 5 (.slice (some ⟨w.heap.size, 0, none⟩) 0 0) [] :=
  ⟨by simpa using World.ownsRow_made w #[] 0 hB (Nat.zero_le _) (by simp), by simp⟩
theorem sl_one {w : World} {u : Value} {T : TypeId} : Sl (w.alloc (.cells #[u] T)) (.slice (some ⟨w.heap.size, 0, none⟩) 1 1) [u] := by
  refine ⟨_, 1, rfl, by simp, fun j y hj => ⟨w.heap.size, 0, rfl, by simp, ?_⟩⟩
  have : j = 0 := by have := (List.getElem?_eq_some_iff.1 hj).1; simpa using this
  subst this
  simp at hj
  subst hj
  rw [World.cell?_alloc_at _ _ _ _ rfl]
  rfl
theorem Sl.drop {w : World} {b off n cap k : Nat} {us : List Value} (h : Sl w (.slice (some ⟨b, off, none⟩) n cap) us) (hk : k ≤ n) : Sl w (.slice (some ⟨b, off + k, none⟩) (n - k) (cap - k)) (us.drop k) := by
  obtain ⟨a, c, e, hl, hc⟩ := h
  simp only [Value.slice.injEq] at e
  obtain ⟨rfl, rfl, rfl⟩ := e
  refine ⟨some ⟨b, off + k, none⟩, cap - k, by simp, by simp; omega, fun j u hu => ?_⟩
  rw [List.getElem?_drop] at hu
  obtain ⟨b', off', e, hb, hcell⟩ := hc (k + j) u hu
  cases e
  exact ⟨b, off + k, rfl, hb, by rw [Nat.add_assoc]; exact hcell⟩
theorem Sl.none {w : World} {X : Option Addr} {n c : Nat} (hn : n = 0) (h : c ≤ 9223372036854775807) : Sl w (.slice X n c) [] := ⟨X, c, by rw [hn]; rfl, by simpa using h, fun j u hu => by simp at hu⟩

theorem c_vBig (v : Value) (n : Nat) (w : World) (h : BytesV w v n) : Calls Try.prog 13 #[v] w fun e w' => e = .returned (.bool (decide (65536 < n))) ∧ w = w' := by
  obtain ⟨ad, cap, rfl, -, -⟩ := h
  have hd : decide ((n : Int) > 65536) = decide (65536 < n) := by simp; omega
  obtain ⟨b, hb⟩ : ∃ b, b = decide (65536 < n) := ⟨_, rfl⟩
  rw [← hb] at hd ⊢
  clear hb
  go_enter Try.func13, Try.ntmps13
  go_wp2
  go_ret
  exact ⟨rfl, rfl⟩

theorem IsU8.app {a b : List Value} (h : IsU8 a) (k : IsU8 b) : IsU8 (a ++ b) := fun u hu => (List.mem_append.1 hu).elim (h u) (k u)
set_option maxRecDepth 100000 in
set_option maxHeartbeats 2000000 in
theorem c_vCut (v : Value) (n k : Nat) (w : World) (h : BytesV w v n) (hn : n ≤ 65536) (hk : k < 200) :
    Calls Try.prog 26 #[v, .int .i64 (k : Int)] w fun e w' => ∃ v' m, e = .returned v' ∧ BytesV w' v' m ∧ m ≤ 65537 ∧ Below w.heap.size w w' := by
  obtain ⟨us, hl, h8, hs⟩ := h.sl
  obtain ⟨ad, cap, rfl, hc, hb⟩ := h
  have hE := (own_u8_empty w w.heap.size (Nat.le_refl _))
  have hA := (Below.refl w.heap.size w).alloc (Nat.le_refl _) (.cells #[] 5)
  have h80 : IsU8 [] := fun u hu => by cases hu
  by_cases hkn : k < n
  · have hd0 : decide ((k : Int) > (n : Int)) = false := by simp; omega
    obtain ⟨b, off, x, rfl, -, -, -⟩ := hb.2 0 (by omega)
    obtain ⟨m, hm⟩ : ∃ m, m = k := ⟨_, rfl⟩
    have hd := (hs.drop (k := m) (by omega)).below hA
    have h8d : IsU8 (us.drop m) := fun u hu => h8 u (List.mem_of_mem_drop hu)
    have h81 : IsU8 [Value.int .u8 (m : Int)] := fun u hu => by simp at hu; subst hu; exact ⟨_, rfl, by omega, by omega⟩
    have hdl : (us.drop m).length ≤ 65536 := by rw [List.length_drop]; omega
    have hcm : m < cap := by omega
    subst hm
    clear hb h8 hs
    go_enter Try.func26, Try.ntmps26
    go_wp2_with (at_builtin; first | (refine wp_append_u8s _ rfl _ _ rfl w.heap.size _ [] rfl hE _ (us.drop m) rfl hd h8d (by simp <;> omega) (by simp) ?_; intro v1 w1 hn1 hb1; have hn2 := Lib.hid (OwnS.below hn1 ((Below.refl w1.heap.size w1).alloc (Nat.le_refl _) (.cells #[.int .u8 (m : Int)] 5)) (Nat.le_refl _)); have hb2 := hA.trans hb1; have hs1 := hb2.size) | (refine wp_append_u8s _ rfl _ _ rfl w.heap.size _ ([] ++ us.drop m) rfl hn2.out _ [Value.int .u8 (m : Int)] rfl sl_one h81 (by simp <;> omega) (by simp <;> omega) ?_; intro v2 w2 hn3 hb3))
    have hbz := (hb2.trans (((Below.refl w1.heap.size w1).alloc (Nat.le_refl _) (.cells #[.int .u8 (m : Int)] 5)).mono hs1)).trans hb3
    go_ret
    exact ⟨_, _, rfl, OwnS.bytes hn3 (IsU8.app (by simpa using h8d) h81) (by simp <;> omega), by simp <;> omega, hbz⟩
  · obtain ⟨m, hm⟩ : ∃ m, m = n := ⟨_, rfl⟩
    have h81 : IsU8 [Value.int .u8 (m : Int)] := fun u hu => by simp at hu; subst hu; exact ⟨_, rfl, by omega, by omega⟩
    subst hm
    clear hb h8 hs
    by_cases hkm : k = m
    · subst hkm
      have hd0 : decide ((k : Int) > (k : Int)) = false := by simp
      obtain ⟨m, hm⟩ : ∃ m, m = k := ⟨_, rfl⟩
      subst hm
      by_cases hcm : cap = m
      · subst cap
        rcases ad with _ | ⟨b, off, s⟩
        · skip
          go_enter Try.func26, Try.ntmps26
          go_wp2_with (at_builtin; first | (refine wp_append_u8s _ rfl _ _ rfl w.heap.size _ [] rfl hE _ (([] : List Value)) rfl (Sl.none (by omega) (by omega)) h80 (by simp <;> omega) (by simp) ?_; intro v1 w1 hn1 hb1; have hn2 := Lib.hid (OwnS.below hn1 ((Below.refl w1.heap.size w1).alloc (Nat.le_refl _) (.cells #[.int .u8 (m : Int)] 5)) (Nat.le_refl _)); have hb2 := hA.trans hb1; have hs1 := hb2.size) | (refine wp_append_u8s _ rfl _ _ rfl w.heap.size _ ([] ++ ([] : List Value)) rfl hn2.out _ [Value.int .u8 (m : Int)] rfl sl_one h81 (by simp <;> omega) (by simp <;> omega) ?_; intro v2 w2 hn3 hb3))
          have hbz := (hb2.trans (((Below.refl w1.heap.size w1).alloc (Nat.le_refl _) (.cells #[.int .u8 (m : Int)] 5)).mono hs1)).trans hb3
          go_ret
          exact ⟨_, _, rfl, OwnS.bytes hn3 (IsU8.app (by simpa using h80) h81) (by simp <;> omega), by simp <;> omega, hbz⟩
        · skip
          go_enter Try.func26, Try.ntmps26
          go_wp2_with (at_builtin; first | (refine wp_append_u8s _ rfl _ _ rfl w.heap.size _ [] rfl hE _ (([] : List Value)) rfl (Sl.none (by omega) (by omega)) h80 (by simp <;> omega) (by simp) ?_; intro v1 w1 hn1 hb1; have hn2 := Lib.hid (OwnS.below hn1 ((Below.refl w1.heap.size w1).alloc (Nat.le_refl _) (.cells #[.int .u8 (m : Int)] 5)) (Nat.le_refl _)); have hb2 := hA.trans hb1; have hs1 := hb2.size) | (refine wp_append_u8s _ rfl _ _ rfl w.heap.size _ ([] ++ ([] : List Value)) rfl hn2.out _ [Value.int .u8 (m : Int)] rfl sl_one h81 (by simp <;> omega) (by simp <;> omega) ?_; intro v2 w2 hn3 hb3))
          have hbz := (hb2.trans (((Below.refl w1.heap.size w1).alloc (Nat.le_refl _) (.cells #[.int .u8 (m : Int)] 5)).mono hs1)).trans hb3
          go_ret
          exact ⟨_, _, rfl, OwnS.bytes hn3 (IsU8.app (by simpa using h80) h81) (by simp <;> omega), by simp <;> omega, hbz⟩
      · have hcm2 : m < cap := by omega
        rcases ad with _ | ⟨b, off, s⟩
        · skip
          go_enter Try.func26, Try.ntmps26
          go_wp2_with (at_builtin; first | (refine wp_append_u8s _ rfl _ _ rfl w.heap.size _ [] rfl hE _ (([] : List Value)) rfl (Sl.none (by omega) (by omega)) h80 (by simp <;> omega) (by simp) ?_; intro v1 w1 hn1 hb1; have hn2 := Lib.hid (OwnS.below hn1 ((Below.refl w1.heap.size w1).alloc (Nat.le_refl _) (.cells #[.int .u8 (m : Int)] 5)) (Nat.le_refl _)); have hb2 := hA.trans hb1; have hs1 := hb2.size) | (refine wp_append_u8s _ rfl _ _ rfl w.heap.size _ ([] ++ ([] : List Value)) rfl hn2.out _ [Value.int .u8 (m : Int)] rfl sl_one h81 (by simp <;> omega) (by simp <;> omega) ?_; intro v2 w2 hn3 hb3))
          have hbz := (hb2.trans (((Below.refl w1.heap.size w1).alloc (Nat.le_refl _) (.cells #[.int .u8 (m : Int)] 5)).mono hs1)).trans hb3
          go_ret
          exact ⟨_, _, rfl, OwnS.bytes hn3 (IsU8.app (by simpa using h80) h81) (by simp <;> omega), by simp <;> omega, hbz⟩
        · skip
          go_enter Try.func26, Try.ntmps26
          go_wp2_with (at_builtin; first | (refine wp_append_u8s _ rfl _ _ rfl w.heap.size _ [] rfl hE _ (([] : List Value)) rfl (Sl.none (by omega) (by omega)) h80 (by simp <;> omega) (by simp) ?_; intro v1 w1 hn1 hb1; have hn2 := Lib.hid (OwnS.below hn1 ((Below.refl w1.heap.size w1).alloc (Nat.le_refl _) (.cells #[.int .u8 (m : Int)] 5)) (Nat.le_refl _)); have hb2 := hA.trans hb1; have hs1 := hb2.size) | (refine wp_append_u8s _ rfl _ _ rfl w.heap.size _ ([] ++ ([] : List Value)) rfl hn2.out _ [Value.int .u8 (m : Int)] rfl sl_one h81 (by simp <;> omega) (by simp <;> omega) ?_; intro v2 w2 hn3 hb3))
          have hbz := (hb2.trans (((Below.refl w1.heap.size w1).alloc (Nat.le_refl _) (.cells #[.int .u8 (m : Int)] 5)).mono hs1)).trans hb3
          go_ret
          exact ⟨_, _, rfl, OwnS.bytes hn3 (IsU8.app (by simpa using h80) h81) (by simp <;> omega), by simp <;> omega, hbz⟩
    · have hd0 : decide ((k : Int) > (m : Int)) = true := by simp; omega
      by_cases hcm : cap = m
      · subst cap
        rcases ad with _ | ⟨b, off, s⟩
        · skip
          go_enter Try.func26, Try.ntmps26
          go_wp2_with (at_builtin; first | (refine wp_append_u8s _ rfl _ _ rfl w.heap.size _ [] rfl hE _ (([] : List Value)) rfl (Sl.none (by omega) (by omega)) h80 (by simp <;> omega) (by simp) ?_; intro v1 w1 hn1 hb1; have hn2 := Lib.hid (OwnS.below hn1 ((Below.refl w1.heap.size w1).alloc (Nat.le_refl _) (.cells #[.int .u8 (m : Int)] 5)) (Nat.le_refl _)); have hb2 := hA.trans hb1; have hs1 := hb2.size) | (refine wp_append_u8s _ rfl _ _ rfl w.heap.size _ ([] ++ ([] : List Value)) rfl hn2.out _ [Value.int .u8 (m : Int)] rfl sl_one h81 (by simp <;> omega) (by simp <;> omega) ?_; intro v2 w2 hn3 hb3))
          have hbz := (hb2.trans (((Below.refl w1.heap.size w1).alloc (Nat.le_refl _) (.cells #[.int .u8 (m : Int)] 5)).mono hs1)).trans hb3
          go_ret
          exact ⟨_, _, rfl, OwnS.bytes hn3 (IsU8.app (by simpa using h80) h81) (by simp <;> omega), by simp <;> omega, hbz⟩
        · skip
          go_enter Try.func26, Try.ntmps26
          go_wp2_with (at_builtin; first | (refine wp_append_u8s _ rfl _ _ rfl w.heap.size _ [] rfl hE _ (([] : List Value)) rfl (Sl.none (by omega) (by omega)) h80 (by simp <;> omega) (by simp) ?_; intro v1 w1 hn1 hb1; have hn2 := Lib.hid (OwnS.below hn1 ((Below.refl w1.heap.size w1).alloc (Nat.le_refl _) (.cells #[.int .u8 (m : Int)] 5)) (Nat.le_refl _)); have hb2 := hA.trans hb1; have hs1 := hb2.size) | (refine wp_append_u8s _ rfl _ _ rfl w.heap.size _ ([] ++ ([] : List Value)) rfl hn2.out _ [Value.int .u8 (m : Int)] rfl sl_one h81 (by simp <;> omega) (by simp <;> omega) ?_; intro v2 w2 hn3 hb3))
          have hbz := (hb2.trans (((Below.refl w1.heap.size w1).alloc (Nat.le_refl _) (.cells #[.int .u8 (m : Int)] 5)).mono hs1)).trans hb3
          go_ret
          exact ⟨_, _, rfl, OwnS.bytes hn3 (IsU8.app (by simpa using h80) h81) (by simp <;> omega), by simp <;> omega, hbz⟩
      · have hcm2 : m < cap := by omega
        rcases ad with _ | ⟨b, off, s⟩
        · skip
          go_enter Try.func26, Try.ntmps26
          go_wp2_with (at_builtin; first | (refine wp_append_u8s _ rfl _ _ rfl w.heap.size _ [] rfl hE _ (([] : List Value)) rfl (Sl.none (by omega) (by omega)) h80 (by simp <;> omega) (by simp) ?_; intro v1 w1 hn1 hb1; have hn2 := Lib.hid (OwnS.below hn1 ((Below.refl w1.heap.size w1).alloc (Nat.le_refl _) (.cells #[.int .u8 (m : Int)] 5)) (Nat.le_refl _)); have hb2 := hA.trans hb1; have hs1 := hb2.size) | (refine wp_append_u8s _ rfl _ _ rfl w.heap.size _ ([] ++ ([] : List Value)) rfl hn2.out _ [Value.int .u8 (m : Int)] rfl sl_one h81 (by simp <;> omega) (by simp <;> omega) ?_; intro v2 w2 hn3 hb3))
          have hbz := (hb2.trans (((Below.refl w1.heap.size w1).alloc (Nat.le_refl _) (.cells #[.int .u8 (m : Int)] 5)).mono hs1)).trans hb3
          go_ret
          exact ⟨_, _, rfl, OwnS.bytes hn3 (IsU8.app (by simpa using h80) h81) (by simp <;> omega), by simp <;> omega, hbz⟩
        · skip
          go_enter Try.func26, Try.ntmps26
          go_wp2_with (at_builtin; first | (refine wp_append_u8s _ rfl _ _ rfl w.heap.size _ [] rfl hE _ (([] : List Value)) rfl (Sl.none (by omega) (by omega)) h80 (by simp <;> omega) (by simp) ?_; intro v1 w1 hn1 hb1; have hn2 := Lib.hid (OwnS.below hn1 ((Below.refl w1.heap.size w1).alloc (Nat.le_refl _) (.cells #[.int .u8 (m : Int)] 5)) (Nat.le_refl _)); have hb2 := hA.trans hb1; have hs1 := hb2.size) | (refine wp_append_u8s _ rfl _ _ rfl w.heap.size _ ([] ++ ([] : List Value)) rfl hn2.out _ [Value.int .u8 (m : Int)] rfl sl_one h81 (by simp <;> omega) (by simp <;> omega) ?_; intro v2 w2 hn3 hb3))
          have hbz := (hb2.trans (((Below.refl w1.heap.size w1).alloc (Nat.le_refl _) (.cells #[.int .u8 (m : Int)] 5)).mono hs1)).trans hb3
          go_ret
          exact ⟨_, _, rfl, OwnS.bytes hn3 (IsU8.app (by simpa using h80) h81) (by simp <;> omega), by simp <;> omega, hbz⟩
end Go.Proofs.Ytiidphlfpiaoeaa
