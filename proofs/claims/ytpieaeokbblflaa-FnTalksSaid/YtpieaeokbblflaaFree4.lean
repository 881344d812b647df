/- A drawn region whose operations may write to blocks of their own, and of which one may write a slot that others read before; conditions: none. -/
import Derived.Test.YtpieaeokbblflaaFree
namespace Go.Proofs.Ytpieaeokbblflaa
open Go.RowKit

theorem wp_region_free4 {P : Program} {ops : Array Oper} {Q : Exit → Act → World → Prop} {a : Act} {w0 : World} {id : Nat} (hm : P.follows .mixedOrders = true)
    (sl : List (Option Nat)) (last : Nat) (hs : slotsB ops sl = true) (hlast : lastB ops last = true) (hord : orderB ops = true) (ol : Oper) (hol : ops[last]? = some ol)
    (W : Nat → Nat → Prop) (R : Nat → Value → Nat × Nat → (Nat → Value) → (Nat → Nat × Nat) → World → Prop) (hmono : ∀ i j v x u g w w', j ≠ i → R i v x u g w → KeptOff (W j) w w' → R i v x u g w')
    (hstab : ∀ i v x u u' g g' w, (∀ j ∈ depsAt ops i, u j = u' j ∧ g j = g' j) → R i v x u g w → R i v x u' g' w)
    (hstep : ∀ i o, ops[i]? = some o → i ≠ last → ∀ u g w, KeptOff (fun k => ∃ j, j ≠ i ∧ ¬ i ∈ depsAt ops j ∧ W j k) w0 w → (∀ j ∈ deps o, R j (u j) (g j) u g w) → Apart w0.heap.size w.heap.size (fun j => j ∈ deps o) g → (∀ j d, i ∈ depsAt ops j ∨ j = last → (ops[j]?).bind (·.dst) = some d → u j = a.tmps.getD d undef) → wpList P ops (Stood3 W a sl R u g i o w Q) [o] (putAll a sl u) w)
    (hend : ∀ u g w, KeptOff (fun k => ∃ j, j ≠ last ∧ W j k) w0 w → (∀ j, j < ops.size → j ≠ last → R j (u j) (g j) u g w) → Apart w0.heap.size w.heap.size (fun j => j < ops.size ∧ j ≠ last) g → wpList P ops Q [ol] (putAll a sl u) w) :
    (Code.region id ops true).wp P Q a w0 := by
  have key : ∀ fuel (L : Array Bool) (u : Nat → Value) (g : Nat → Nat × Nat) (w : World), Apart w0.heap.size w.heap.size (fun j => L.getD j false = true) g → L.size = ops.size → (L.toList.countP (fun b => !b) ≤ fuel) → L.getD last true = false → KeptOff (fun k => ∃ j, L.getD j false = true ∧ W j k) w0 w →
      (∀ j o, ops[j]? = some o → L.getD j false = true → ∀ k ∈ deps o, L.getD k false = true) → (∀ j, L.getD j false = true → R j (u j) (g j) u g w) → (∀ j d, L.getD j false = false → (ops[j]?).bind (·.dst) = some d → u j = a.tmps.getD d undef) →
      wpAny P .any ops Q fuel L (putAll a sl u) w := by
    intro fuel
    induction fuel with
    | zero =>
      intro L u g w hap hsz hcnt hl
      exfalso
      have hlt : last < L.size := by
        apply Nat.lt_of_not_le; intro hle
        simp [Array.getD, Nat.not_lt.2 hle] at hl
      have : L[last] = false := by simpa [Array.getD, hlt] using hl
      have hmem : false ∈ L.toList := by rw [← this]; simp
      have hpos : 0 < L.toList.countP (fun b => !b) := List.countP_pos_iff.2 ⟨false, hmem, rfl⟩
      omega
    | succ fuel ih =>
      intro L u g w hap hsz hcnt hl hb hC hR hU
      have hready : ∀ i ∈ Region.ready .any ops L, wpOp P ops Q i (wpAny P .any ops Q fuel (L.setIfInBounds i true)) (putAll a sl u) w := by
        intro i hi
        obtain ⟨o, ho, hli, hd⟩ := ready_deps hi
        have hilt : i < L.size := by rw [hsz]; exact (Array.getElem?_eq_some_iff.1 ho).1
        have hget : ∀ j, (L.setIfInBounds i true).getD j false = if j = i then true else L.getD j false := by
          intro j
          simp only [Array.getD_eq_getD_getElem?, Array.getElem?_setIfInBounds]
          by_cases e : i = j
          · subst e; simp [hilt]
          · rw [if_neg e, if_neg (fun e' => e e'.symm)]
        have hcnt' : (L.setIfInBounds i true).toList.countP (fun b => !b) ≤ fuel := by
          have h1 : L[i] = false := by simpa [Array.getD, hilt] using hli
          rw [Array.toList_setIfInBounds]
          have hli' : i < L.toList.length := by simpa using hilt
          rw [List.set_eq_take_append_cons_drop, if_pos hli', List.countP_append, List.countP_cons]
          have h2 : L.toList = L.toList.take i ++ L.toList[i] :: L.toList.drop (i + 1) := by
            rw [← List.drop_eq_getElem_cons hli', List.take_append_drop]
          rw [h2, List.countP_append, List.countP_cons] at hcnt
          simp only [Array.getElem_toList, h1, Bool.not_false, if_true, Bool.not_true, Bool.false_eq_true, if_false] at hcnt ⊢
          omega
        by_cases hil : i = last
        · subst hil
          -- all others are listed
          rw [ho] at hol
          obtain rfl := Option.some.inj hol
          have hall : ∀ j, j < ops.size → j ≠ i → L.getD j false = true := by
            intro j hj hne
            simp only [lastB, List.all_eq_true, List.mem_range] at hlast
            have := hlast j hj
            simp only [Bool.or_eq_true, beq_iff_eq, hne, false_or, List.contains_iff_mem, ho, Option.elim_some] at this
            exact reach_listed hC _ _ hd j this
          have hnone : Region.ready .any ops (L.setIfInBounds i true) = [] := by
            rw [List.eq_nil_iff_forall_not_mem]
            intro j hj
            obtain ⟨o', ho', hlj, -⟩ := ready_deps hj
            have hjl := (Array.getElem?_eq_some_iff.1 ho').1
            have : (L.setIfInBounds i true).getD j false = true := by
              rw [hget]; split
              · rfl
              · next e => exact hall j hjl e
            simp only [Array.getD, Array.size_setIfInBounds, hsz, hjl, dif_pos] at this hlj
            rw [this] at hlj; cases hlj
          have hfin : ∀ a' w', Q .normal a' w' → wpAny P .any ops Q fuel (L.setIfInBounds i true) a' w' := by
            intro a' w' hq
            cases fuel with
            | zero => exact ⟨hnone, hq⟩
            | succ f => exact ⟨fun _ => hq, fun j hj => by rw [hnone] at hj; cases hj⟩
          have h := hend u g w (hb.mono fun k ⟨j, hj, hw⟩ => ⟨j, (fun e => by subst e; simp only [Array.getD, hilt, dif_pos] at hli hj; rw [hj] at hli; cases hli), hw⟩) (fun j hj hne => hR j (hall j hj hne)) (hap.sub fun j hj => hall j hj.1 hj.2)
          unfold wpOp
          rw [ho]
          simp only [wpList] at h
          simp only
          split at h
          · next hw => rw [if_pos hw]; exact h.imp (Oper.wp_mono fun a' w' hq => hfin a' w' hq) (fun x => x)
          · next hw => rw [if_neg hw]; exact hfin _ _ h
        · have h := hstep i o ho hil u g w (hb.mono fun k ⟨j, hj, hw⟩ => ⟨j, (fun e => by subst e; simp only [Array.getD, hilt, dif_pos] at hli hj; rw [hj] at hli; cases hli), (fun e => by
              unfold depsAt at e
              cases hoj : ops[j]? with
              | none => rw [hoj] at e; cases e
              | some oj =>
                rw [hoj] at e
                have hci := hC j oj hoj hj i e
                simp only [Array.getD, hilt, dif_pos] at hli hci
                rw [hci] at hli; cases hli), hw⟩) (fun j hj => hR j (hd j hj)) (hap.sub fun j hj => hd j hj) (fun j d hj hjd => hU j d (by
              rcases hj with e | e
              · cases hLj : L.getD j false with
                | false => rfl
                | true =>
                  unfold depsAt at e
                  cases hoj : ops[j]? with
                  | none => rw [hoj] at e; cases e
                  | some oj =>
                    rw [hoj] at e
                    have hci := hC j oj hoj hLj i e
                    simp only [Array.getD, hilt, dif_pos] at hli hci
                    rw [hci] at hli; cases hli
              · subst e
                simp only [Array.getD_eq_getD_getElem?] at hl ⊢
                cases hLl : L[j]? with
                | none => rfl
                | some x => rw [hLl] at hl; simpa using hl) hjd)
          have hnext : ∀ a' w', Stood3 W a sl R u g i o w Q .normal a' w' → wpAny P .any ops Q fuel (L.setIfInBounds i true) a' w' := by
            intro a' w' hq
            obtain ⟨v, rfl, hbw, hv⟩ := hq
            rw [putAll_put hs ho]
            refine ih _ _ (updI g i (w.heap.size, w'.heap.size)) _ ((hap.add i hb.size hbw.size).sub fun j hj => by rw [hget] at hj; by_cases e : j = i; exact .inl e; rw [if_neg e] at hj; exact .inr hj) (by simpa using hsz) hcnt' ?_ ((hb.mono fun k ⟨j, hj, hw⟩ => ⟨j, by rw [hget]; split <;> first | rfl | exact hj, hw⟩).trans (hbw.mono fun k hk => ⟨i, by rw [hget, if_pos rfl], hk⟩)) ?_ ?_ (fun j d hj hjd => by
              rw [hget] at hj
              by_cases e : j = i
              · rw [if_pos e] at hj; cases hj
              · rw [if_neg e] at hj
                simp only [upd, if_neg e]
                exact hU j d hj hjd)
            · simp only [Array.getD_eq_getD_getElem?, Array.getElem?_setIfInBounds, if_neg hil] at hl ⊢
              exact hl
            · intro j oj hoj hlj k hk
              rw [hget] at hlj ⊢
              split
              · rfl
              · next e =>
                by_cases ej : j = i
                · subst ej
                  rw [ho] at hoj
                  obtain rfl := Option.some.inj hoj
                  exact hd k hk
                · rw [if_neg ej] at hlj
                  exact hC j oj hoj hlj k hk
            · intro j hlj
              rw [hget] at hlj
              have hnd : ∀ k, L.getD k false = true → u k = upd u i v k ∧ g k = updI g i (w.heap.size, w'.heap.size) k := by
                intro k hk
                have e : k ≠ i := by
                  intro e; subst e
                  simp only [Array.getD, hilt, dif_pos] at hli hk
                  rw [hk] at hli; cases hli
                simp [upd, updI, e]
              by_cases ej : j = i
              · subst ej
                have hv' := hstab j v _ u (upd u j v) g (updI g j (w.heap.size, w'.heap.size)) w' (fun k hk => hnd k (hd k (by unfold depsAt at hk; rw [ho] at hk; exact hk))) hv
                simpa [upd, updI] using hv'
              · rw [if_neg ej] at hlj
                have hj := hmono j i _ _ _ _ _ _ (fun e => ej e.symm) (hR j hlj) hbw
                have hj' := hstab j _ _ u (upd u i v) g (updI g i (w.heap.size, w'.heap.size)) w' (fun k hk => hnd k (by
                  unfold depsAt at hk
                  cases hoj : ops[j]? with
                  | none => rw [hoj] at hk; cases hk
                  | some oj => rw [hoj] at hk; exact hC j oj hoj hlj k hk)) hj
                simpa [upd, updI, ej] using hj'
          unfold wpOp
          rw [ho]
          simp only [wpList] at h
          simp only
          split at h
          · next hw =>
            rw [if_pos hw]
            refine h.imp (wp_swap hnext (fun _ _ _ h => h) fun ⟨x, y, h⟩ => ⟨x, y, h⟩) fun ⟨h1, h2⟩ => ⟨h1, ?_⟩
            obtain ⟨x, y, h2⟩ := h2
            exact ⟨x, y, h2⟩
          · next hw => rw [if_neg hw]; exact hnext _ _ h
      exact ⟨fun hnil => absurd hnil (ready_some hord hsz hl), hready⟩
  refine wp_region_any hm ?_
  have hlt : last < ops.size := (Array.getElem?_eq_some_iff.1 hol).1
  have hno : ∀ j, (Array.replicate ops.size false).getD j false = false := by
    intro j
    simp only [Array.getD_eq_getD_getElem?, Array.getElem?_replicate]
    split <;> rfl
  rw [putAll_self hs a]
  refine key _ _ _ (fun _ => (w0.heap.size, w0.heap.size)) _ ⟨fun j h => (by rw [hno] at h; cases h), fun i j h => (by rw [hno] at h; cases h)⟩ (by simp) ?_ ?_ ⟨rfl, rfl, rfl, Nat.le_refl _, fun _ _ _ => rfl⟩ (fun j o _ h => by rw [hno] at h; cases h) (fun j h => by rw [hno] at h; cases h) (fun j d _ hjd => by simp only [hjd])
  · refine Nat.le_trans (List.countP_le_length) ?_
    simp
  · simp [Array.getD, hlt]
end Go.Proofs.Ytpieaeokbblflaa
