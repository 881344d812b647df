/- A region that draws its order, of whose operations the values are known, over whatever the worlds keep; conditions: none. -/
import Derived.Test.YtpieaeokbblflaaFree
namespace Go.Proofs.Ytpieaeokbblflaa
open Go.RowKit

/-- the operation has left its value, and the worlds' law holds -/
def StoodV (I : World → Prop) (a : Act) (sl : List (Option Nat)) (vs : List Value) (u : Nat → Value) (i : Nat) (o : Oper) (Q : Exit → Act → World → Prop) : Exit → Act → World → Prop
  | .normal, a', w' => a' = (putAll a sl u).put o.dst (vs.getD i undef) ∧ I w'
  | e, a', w' => Q e a' w'

theorem wp_region_vals {P : Program} {ops : Array Oper} {Q : Exit → Act → World → Prop} {a : Act} {w0 : World} {id : Nat} (hm : P.follows .mixedOrders = true)
    (sl : List (Option Nat)) (last : Nat) (hs : slotsB ops sl = true) (hlast : lastB ops last = true) (hord : orderB ops = true) (ol : Oper) (hol : ops[last]? = some ol)
    (I : World → Prop) (h0 : I w0.drew) (vs : List Value)
    (hstep : ∀ i o, ops[i]? = some o → i ≠ last → ∀ u w, I w → (∀ j ∈ deps o, u j = vs.getD j undef) → wpList P ops (StoodV I a sl vs u i o Q) [o] (putAll a sl u) w)
    (hend : ∀ u w, I w → (∀ j, j < ops.size → j ≠ last → u j = vs.getD j undef) → wpList P ops Q [ol] (putAll a sl u) w) :
    (Code.region id ops true).wp P Q a w0 := by
  have key : ∀ fuel (L : Array Bool) (u : Nat → Value) (w : World), L.size = ops.size → (L.toList.countP (fun b => !b) ≤ fuel) → L.getD last true = false → I w →
      (∀ j o, ops[j]? = some o → L.getD j false = true → ∀ k ∈ deps o, L.getD k false = true) → (∀ j, L.getD j false = true → u j = vs.getD j undef) →
      wpAny P .any ops Q fuel L (putAll a sl u) w := by
    intro fuel
    induction fuel with
    | zero =>
      intro L u w hsz hcnt hl
      exfalso
      have hlt : last < L.size := by
        apply Nat.lt_of_not_le; intro hle
        simp [Array.getD, Nat.not_lt.2 hle] at hl
      have : L[last] = false := by simpa [Array.getD, hlt] using hl
      have hmem : false ∈ L.toList := by rw [← this]; simp
      have hpos : 0 < L.toList.countP (fun b => !b) := List.countP_pos_iff.2 ⟨false, hmem, rfl⟩
      omega
    | succ fuel ih =>
      intro L u w hsz hcnt hl hb hC hR
      have hready : ∀ i ∈ Region.ready .any ops L, wpOp P ops Q i (wpAny P .any ops Q fuel (L.setIfInBounds i true)) (putAll a sl u) w := by
        intro i hi
        obtain ⟨o, ho, hli, hd⟩ := ready_deps hi
        have hilt : i < L.size := by rw [hsz]; exact (Array.getElem?_eq_some_iff.1 ho).1
        have hget : ∀ j, (L.setIfInBounds i true).getD j false = if j = i then true else L.getD j false := by
          intro j
          simp only [Array.getD_eq_getD_getElem?, Array.getElem?_setIfInBounds]
          by_cases e : i = j
          · subst e; simp [hilt]
          · rw [if_neg e, if_neg (fun e' => e e'.symm)]
        have hcnt' : (L.setIfInBounds i true).toList.countP (fun b => !b) ≤ fuel := by
          have h1 : L[i] = false := by simpa [Array.getD, hilt] using hli
          rw [Array.toList_setIfInBounds]
          have hli' : i < L.toList.length := by simpa using hilt
          rw [List.set_eq_take_append_cons_drop, if_pos hli', List.countP_append, List.countP_cons]
          have h2 : L.toList = L.toList.take i ++ L.toList[i] :: L.toList.drop (i + 1) := by
            rw [← List.drop_eq_getElem_cons hli', List.take_append_drop]
          rw [h2, List.countP_append, List.countP_cons] at hcnt
          simp only [Array.getElem_toList, h1, Bool.not_false, if_true, Bool.not_true, Bool.false_eq_true, if_false] at hcnt ⊢
          omega
        by_cases hil : i = last
        · subst hil
          -- all others are listed
          rw [ho] at hol
          obtain rfl := Option.some.inj hol
          have hall : ∀ j, j < ops.size → j ≠ i → L.getD j false = true := by
            intro j hj hne
            simp only [lastB, List.all_eq_true, List.mem_range] at hlast
            have := hlast j hj
            simp only [Bool.or_eq_true, beq_iff_eq, hne, false_or, List.contains_iff_mem, ho, Option.elim_some] at this
            exact reach_listed hC _ _ hd j this
          have hnone : Region.ready .any ops (L.setIfInBounds i true) = [] := by
            rw [List.eq_nil_iff_forall_not_mem]
            intro j hj
            obtain ⟨o', ho', hlj, -⟩ := ready_deps hj
            have hjl := (Array.getElem?_eq_some_iff.1 ho').1
            have : (L.setIfInBounds i true).getD j false = true := by
              rw [hget]; split
              · rfl
              · next e => exact hall j hjl e
            simp only [Array.getD, Array.size_setIfInBounds, hsz, hjl, dif_pos] at this hlj
            rw [this] at hlj; cases hlj
          have hfin : ∀ a' w', Q .normal a' w' → wpAny P .any ops Q fuel (L.setIfInBounds i true) a' w' := by
            intro a' w' hq
            cases fuel with
            | zero => exact ⟨hnone, hq⟩
            | succ f => exact ⟨fun _ => hq, fun j hj => by rw [hnone] at hj; cases hj⟩
          have h := hend u w hb fun j hj hne => hR j (hall j hj hne)
          unfold wpOp
          rw [ho]
          simp only [wpList] at h
          simp only
          split at h
          · next hw => rw [if_pos hw]; exact h.imp (Oper.wp_mono fun a' w' hq => hfin a' w' hq) (fun x => x)
          · next hw => rw [if_neg hw]; exact hfin _ _ h
        · have h := hstep i o ho hil u w hb fun j hj => hR j (hd j hj)
          have hnext : ∀ a' w', StoodV I a sl vs u i o Q .normal a' w' → wpAny P .any ops Q fuel (L.setIfInBounds i true) a' w' := by
            intro a' w' hq
            obtain ⟨rfl, hbw⟩ := hq
            rw [putAll_put hs ho]
            refine ih _ _ _ (by simpa using hsz) hcnt' ?_ hbw ?_ ?_
            · simp only [Array.getD_eq_getD_getElem?, Array.getElem?_setIfInBounds, if_neg hil] at hl ⊢
              exact hl
            · intro j oj hoj hlj k hk
              rw [hget] at hlj ⊢
              split
              · rfl
              · next e =>
                by_cases ej : j = i
                · subst ej
                  rw [ho] at hoj
                  obtain rfl := Option.some.inj hoj
                  exact hd k hk
                · rw [if_neg ej] at hlj
                  exact hC j oj hoj hlj k hk
            · intro j hlj
              rw [hget] at hlj
              by_cases ej : j = i
              · subst ej; simp [upd]
              · rw [if_neg ej] at hlj
                simp only [upd, if_neg ej]
                exact hR j hlj
          unfold wpOp
          rw [ho]
          simp only [wpList] at h
          simp only
          split at h
          · next hw =>
            rw [if_pos hw]
            refine h.imp (wp_swap hnext (fun _ _ _ h => h) fun ⟨x, y, h⟩ => ⟨x, y, h⟩) fun ⟨h1, h2⟩ => ⟨h1, ?_⟩
            obtain ⟨x, y, h2⟩ := h2
            exact ⟨x, y, h2⟩
          · next hw => rw [if_neg hw]; exact hnext _ _ h
      exact ⟨fun hnil => absurd hnil (ready_some hord hsz hl), hready⟩
  refine wp_region_any hm ?_
  have hlt : last < ops.size := (Array.getElem?_eq_some_iff.1 hol).1
  have hno : ∀ j, (Array.replicate ops.size false).getD j false = false := by
    intro j
    simp only [Array.getD_eq_getD_getElem?, Array.getElem?_replicate]
    split <;> rfl
  rw [putAll_self hs a]
  refine key _ _ _ _ (by simp) ?_ ?_ h0 (fun j o _ h => by rw [hno] at h; cases h) (fun j h => by rw [hno] at h; cases h)
  · refine Nat.le_trans (List.countP_le_length) ?_
    simp
  · simp [Array.getD, hlt]
end Go.Proofs.Ytpieaeokbblflaa
