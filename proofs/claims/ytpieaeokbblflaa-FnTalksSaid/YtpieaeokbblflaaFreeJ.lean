/- A region that draws its order, by a law over what has been listed, the values and the world; conditions: none. -/
import Derived.Test.YtpieaeokbblflaaFree
namespace Go.Proofs.Ytpieaeokbblflaa
open Go.RowKit

def setL (L : Nat → Bool) (i : Nat) : Nat → Bool := fun j => j == i || L j
/-- the operation has left a value, and the law holds -/
def StoodJ (J : (Nat → Bool) → (Nat → Value) → World → Prop) (a : Act) (sl : List (Option Nat)) (L : Nat → Bool) (u : Nat → Value) (i : Nat) (o : Oper) (Q : Exit → Act → World → Prop) : Exit → Act → World → Prop
  | .normal, a', w' => ∃ v, a' = (putAll a sl u).put o.dst v ∧ J (setL L i) (upd u i v) w'
  | e, a', w' => Q e a' w'

theorem wp_region_J {P : Program} {ops : Array Oper} {Q : Exit → Act → World → Prop} {a : Act} {w0 : World} {id : Nat} (hm : P.follows .mixedOrders = true)
    (sl : List (Option Nat)) (hs : slotsB ops sl = true) (hord : orderB ops = true)
    (J : (Nat → Bool) → (Nat → Value) → World → Prop)
    (h0 : J (fun _ => false) (fun j => match (ops[j]?).bind (·.dst) with | some d => a.tmps.getD d undef | none => undef) w0.drew)
    (hstep : ∀ i o, ops[i]? = some o → ∀ L u w, J L u w → L i = false → (∀ j ∈ deps o, L j = true) → (∀ j oj, ops[j]? = some oj → L j = true → ∀ k ∈ deps oj, L k = true) → wpList P ops (StoodJ J a sl L u i o Q) [o] (putAll a sl u) w)
    (hend : ∀ L u w, J L u w → (∀ j, j < ops.size → L j = true) → Q .normal (putAll a sl u) w) :
    (Code.region id ops true).wp P Q a w0 := by
  have key : ∀ fuel (L : Array Bool) (u : Nat → Value) (w : World), L.size = ops.size → (L.toList.countP (fun b => !b) ≤ fuel) → J (fun j => L.getD j false) u w →
      (∀ j o, ops[j]? = some o → L.getD j false = true → ∀ k ∈ deps o, L.getD k false = true) → wpAny P .any ops Q fuel L (putAll a sl u) w := by
    intro fuel
    induction fuel with
    | zero =>
      intro L u w hsz hcnt hJ hC
      have hall : ∀ j, j < ops.size → L.getD j false = true := by
        intro j hj
        have hj' : j < L.size := by omega
        cases hLj : L[j] with
        | true => simp [Array.getD, hj', hLj]
        | false =>
          have hmem : false ∈ L.toList := by rw [← hLj]; simp
          have hpos : 0 < L.toList.countP (fun b => !b) := List.countP_pos_iff.2 ⟨false, hmem, rfl⟩
          omega
      refine ⟨?_, hend _ _ _ hJ hall⟩
      rw [List.eq_nil_iff_forall_not_mem]
      intro j hj
      obtain ⟨o', ho', hlj, -⟩ := ready_deps hj
      have hjl := (Array.getElem?_eq_some_iff.1 ho').1
      have := hall j hjl
      simp only [Array.getD, hsz, hjl, dif_pos] at this hlj
      rw [this] at hlj; cases hlj
    | succ fuel ih =>
      intro L u w hsz hcnt hJ hC
      by_cases hall : ∀ j, j < ops.size → L.getD j false = true
      · refine ⟨fun _ => hend _ _ _ hJ hall, fun j hj => ?_⟩
        obtain ⟨o', ho', hlj, -⟩ := ready_deps hj
        have hjl := (Array.getElem?_eq_some_iff.1 ho').1
        have := hall j hjl
        simp only [Array.getD, hsz, hjl, dif_pos] at this hlj
        rw [this] at hlj; cases hlj
      · have hex : ∃ j, j < ops.size ∧ L.getD j false = false := by
          apply Classical.byContradiction
          intro hn
          apply hall
          intro j hj
          cases hb : L.getD j false
          · exact absurd ⟨j, hj, hb⟩ hn
          · rfl
        obtain ⟨j0, hj0, hl0⟩ := hex
        have hl0' : L.getD j0 true = false := by simpa [Array.getD, hsz, hj0] using hl0
        refine ⟨fun hnil => absurd hnil (ready_some hord hsz hl0'), fun i hi => ?_⟩
        obtain ⟨o, ho, hli, hd⟩ := ready_deps hi
        have hilt : i < L.size := by rw [hsz]; exact (Array.getElem?_eq_some_iff.1 ho).1
        have hli' : L.getD i false = false := by simpa [Array.getD, hilt] using hli
        have hget : ∀ j, (L.setIfInBounds i true).getD j false = setL (fun j => L.getD j false) i j := by
          intro j
          simp only [setL, Array.getD_eq_getD_getElem?, Array.getElem?_setIfInBounds]
          by_cases e : i = j
          · subst e; simp [hilt]
          · rw [if_neg e]
            have : (j == i) = false := by simp; exact fun e' => e e'.symm
            rw [this, Bool.false_or]
        have hgetF : (fun j => (L.setIfInBounds i true).getD j false) = setL (fun j => L.getD j false) i := funext hget
        have hcnt' : (L.setIfInBounds i true).toList.countP (fun b => !b) ≤ fuel := by
          have h1 : L[i] = false := by simpa [Array.getD, hilt] using hli
          rw [Array.toList_setIfInBounds]
          have hli2 : i < L.toList.length := by simpa using hilt
          rw [List.set_eq_take_append_cons_drop, if_pos hli2, List.countP_append, List.countP_cons]
          have h2 : L.toList = L.toList.take i ++ L.toList[i] :: L.toList.drop (i + 1) := by
            rw [← List.drop_eq_getElem_cons hli2, List.take_append_drop]
          rw [h2, List.countP_append, List.countP_cons] at hcnt
          simp only [Array.getElem_toList, h1, Bool.not_false, if_true, Bool.not_true, Bool.false_eq_true, if_false] at hcnt ⊢
          omega
        have h := hstep i o ho (fun j => L.getD j false) u w hJ hli' hd hC
        have hnext : ∀ a' w', StoodJ J a sl (fun j => L.getD j false) u i o Q .normal a' w' → wpAny P .any ops Q fuel (L.setIfInBounds i true) a' w' := by
          intro a' w' hq
          obtain ⟨v, rfl, hv⟩ := hq
          rw [putAll_put hs ho]
          refine ih _ _ _ (by simpa using hsz) hcnt' (by rw [hgetF]; exact hv) ?_
          intro j oj hoj hlj k hk
          rw [hget] at hlj ⊢
          simp only [setL, Bool.or_eq_true, beq_iff_eq] at hlj ⊢
          by_cases ej : j = i
          · subst ej
            rw [ho] at hoj
            obtain rfl := Option.some.inj hoj
            exact .inr (hd k hk)
          · exact .inr (hC j oj hoj (hlj.resolve_left ej) k hk)
        unfold wpOp
        rw [ho]
        simp only [wpList] at h
        simp only
        split at h
        · next hw =>
          rw [if_pos hw]
          refine h.imp (wp_swap hnext (fun _ _ _ h => h) fun ⟨x, y, h⟩ => ⟨x, y, h⟩) fun ⟨h1, h2⟩ => ⟨h1, ?_⟩
          obtain ⟨x, y, h2⟩ := h2
          exact ⟨x, y, h2⟩
        · next hw => rw [if_neg hw]; exact hnext _ _ h
  refine wp_region_any hm ?_
  have hno : ∀ j, (Array.replicate ops.size false).getD j false = false := by
    intro j
    simp only [Array.getD_eq_getD_getElem?, Array.getElem?_replicate]
    split <;> rfl
  rw [putAll_self hs a]
  refine key _ _ _ _ (by simp) ?_ ?_ (fun j o _ h => by rw [hno] at h; cases h)
  · refine Nat.le_trans (List.countP_le_length) ?_
    simp
  · have : (fun j => (Array.replicate ops.size false).getD j false) = fun _ => false := funext hno
    rw [this]
    exact h0
end Go.Proofs.Ytpieaeokbblflaa
