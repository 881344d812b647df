/- A region that draws its order and ends in a row of operations that wait for all before them, over laws of the worlds and of the values; conditions: none. -/
import Derived.Test.YtiidphlfpiaoeaaFree
namespace Go.Proofs.Ytiidphlfpiaoeaa
open Go.RowKit

/-- the operations from t on wait for all before them -/
def tailsB (ops : Array Oper) (t : Nat) : Bool := (List.range ops.size).all fun i => decide (i < t) || (List.range i).all fun j => (reach ops ops.size ((ops[i]?).elim [] deps)).contains j
theorem tails_of {ops : Array Oper} {t i j : Nat} {o : Oper} (h : tailsB ops t = true) (hi : t ≤ i) (ho : ops[i]? = some o) (hj : j < i) : j ∈ reach ops ops.size (deps o) := by
  simp only [tailsB, List.all_eq_true, List.mem_range, Bool.or_eq_true, decide_eq_true_eq] at h
  have := (h i (Array.getElem?_eq_some_iff.1 ho).1).resolve_left (by omega) j hj
  rw [ho] at this
  simpa using this
theorem order_of {ops : Array Oper} {i k : Nat} {o : Oper} (hord : orderB ops = true) (ho : ops[i]? = some o) (hk : k ∈ deps o) : k < i := by
  simp only [orderB, List.all_eq_true, List.mem_range] at hord
  have := hord i (Array.getElem?_eq_some_iff.1 ho).1 k (by rw [ho]; exact hk)
  simpa using this

theorem wpAny_tail {P : Program} {ops : Array Oper} {Q : Exit → Act → World → Prop} {t : Nat} (htl : tailsB ops t = true) (hord : orderB ops = true) :
    ∀ m k fuel (L : Array Bool) (a : Act) (w : World), k + m = ops.size → t ≤ k → L.size = ops.size → (∀ j, j < k → L.getD j false = true) → (∀ j, k ≤ j → L.getD j false = false) → m ≤ fuel →
      wpList P ops Q (ops.toList.drop k) a w → wpAny P .any ops Q fuel L a w := by
  intro m
  induction m with
  | zero =>
    intro k fuel L a w hk ht hsz hl hn hf h
    have hnone : Region.ready .any ops L = [] := by
      rw [List.eq_nil_iff_forall_not_mem]
      intro j hj
      obtain ⟨o', ho', hlj, -⟩ := ready_deps hj
      have hjl := (Array.getElem?_eq_some_iff.1 ho').1
      have := hl j (by omega)
      simp only [Array.getD, hsz, hjl, dif_pos] at this hlj
      rw [this] at hlj; cases hlj
    have hd : ops.toList.drop k = [] := List.drop_eq_nil_of_le (by simp; omega)
    rw [hd] at h
    cases fuel with
    | zero => exact ⟨hnone, h⟩
    | succ f => exact ⟨fun _ => h, fun j hj => by rw [hnone] at hj; cases hj⟩
  | succ m ih =>
    intro k fuel L a w hk ht hsz hl hn hf h
    obtain ⟨f, rfl⟩ : ∃ f, fuel = f + 1 := ⟨fuel - 1, by omega⟩
    have hkl : k < ops.size := by omega
    have hk2 : k < ops.toList.length := by simpa using hkl
    rw [List.drop_eq_getElem_cons hk2] at h
    have hlk : L.getD k true = false := by
      have := hn k (Nat.le_refl _)
      simpa [Array.getD, hsz, hkl] using this
    refine ⟨fun hnil => absurd hnil (ready_some hord hsz hlk), fun i hi => ?_⟩
    obtain ⟨o, ho, hli, hd⟩ := ready_deps hi
    have hil := (Array.getElem?_eq_some_iff.1 ho).1
    have hli' : L.getD i false = false := by simpa [Array.getD, hsz, hil] using hli
    have hC : ∀ j oj, ops[j]? = some oj → L.getD j false = true → ∀ q ∈ deps oj, L.getD q false = true := by
      intro j oj hj hlj q hq
      have h1 := order_of hord hj hq
      have h2 : j < k := by
        apply Nat.lt_of_not_le; intro hle
        rw [hn j hle] at hlj; cases hlj
      exact hl q (by omega)
    have hik : i = k := by
      have h1 : ¬ i < k := fun hlt => by rw [hl i hlt] at hli'; cases hli'
      have h2 : ¬ k < i := fun hlt => by
        have := reach_listed hC _ _ hd k (tails_of htl (by omega) ho hlt)
        rw [hn k (Nat.le_refl _)] at this; cases this
      omega
    subst hik
    have hok : ops.toList[i] = o := by
      rw [Array.getElem?_eq_getElem hil] at ho
      simpa using Option.some.inj ho
    rw [hok] at h
    have hnext : ∀ a' w', wpList P ops Q (ops.toList.drop (i + 1)) a' w' → wpAny P .any ops Q f (L.setIfInBounds i true) a' w' := by
      intro a' w' h'
      refine ih (i + 1) f _ a' w' (by omega) (by omega) (by simpa using hsz) ?_ ?_ (by omega) h'
      · intro j hj
        simp only [Array.getD_eq_getD_getElem?, Array.getElem?_setIfInBounds]
        by_cases e : i = j
        · subst e; simp [hsz, hil]
        · rw [if_neg e]
          have := hl j (by omega)
          simpa only [Array.getD_eq_getD_getElem?] using this
      · intro j hj
        simp only [Array.getD_eq_getD_getElem?, Array.getElem?_setIfInBounds]
        rw [if_neg (by omega)]
        have := hn j (by omega)
        simpa only [Array.getD_eq_getD_getElem?] using this
    unfold wpOp
    rw [ho]
    simp only [wpList] at h
    simp only
    split at h
    · next hw => rw [if_pos hw]; exact h.imp (Oper.wp_mono hnext) id
    · next hw => rw [if_neg hw]; exact hnext _ _ h

/-- the operation has left a value; the laws hold -/
def StoodA (I : Nat → World → Prop) (S : World → World → Prop) (R : Nat → Value → World → Prop) (a : Act) (sl : List (Option Nat)) (u : Nat → Value) (n i : Nat) (o : Oper) (w : World) (Q : Exit → Act → World → Prop) : Exit → Act → World → Prop
  | .normal, a', w' => ∃ v, a' = (putAll a sl u).put o.dst v ∧ I (n + 1) w' ∧ S w w' ∧ R i v w'
  | e, a', w' => Q e a' w'

theorem wp_region_acc {P : Program} {ops : Array Oper} {Q : Exit → Act → World → Prop} {a : Act} {w0 : World} {id : Nat} (hm : P.follows .mixedOrders = true)
    (sl : List (Option Nat)) (t : Nat) (hs : slotsB ops sl = true) (hord : orderB ops = true) (htl : tailsB ops t = true) (ht : t ≤ ops.size)
    (I : Nat → World → Prop) (S : World → World → Prop) (R : Nat → Value → World → Prop) (hmono : ∀ i v w w', R i v w → S w w' → R i v w')
    (h0 : I 0 w0.drew)
    (hstep : ∀ i o, ops[i]? = some o → i < t → ∀ n u w, n < t → I n w → (∀ j ∈ deps o, R j (u j) w) → wpList P ops (StoodA I S R a sl u n i o w Q) [o] (putAll a sl u) w)
    (hend : ∀ u w, I t w → (∀ j, j < t → R j (u j) w) → wpList P ops Q (ops.toList.drop t) (putAll a sl u) w) :
    (Code.region id ops true).wp P Q a w0 := by
  have key : ∀ fuel (L : Array Bool) (n : Nat) (u : Nat → Value) (w : World), L.size = ops.size → ((L.toList.take t).countP (fun b => !b) + n = t) → t - n + (ops.size - t) ≤ fuel → (∀ j, t ≤ j → L.getD j false = false) → I n w →
      (∀ j o, ops[j]? = some o → L.getD j false = true → ∀ k ∈ deps o, L.getD k false = true) → (∀ j, L.getD j false = true → R j (u j) w) →
      wpAny P .any ops Q fuel L (putAll a sl u) w := by
    intro fuel
    induction fuel with
    | zero =>
      intro L n u w hsz hcnt hf hn hI hC hR
      have hnt : n = t := by omega
      subst hnt
      have hall : ∀ j, j < n → L.getD j false = true := by
        intro j hj
        have hj' : j < L.size := by omega
        cases hLj : L[j] with
        | true => simp [Array.getD, hj', hLj]
        | false =>
          have hmem : false ∈ L.toList.take n := by
            rw [List.mem_take_iff_getElem]
            exact ⟨j, by simp; omega, by simpa using hLj⟩
          have hpos : 0 < (L.toList.take n).countP (fun b => !b) := List.countP_pos_iff.2 ⟨false, hmem, rfl⟩
          omega
      exact wpAny_tail htl hord (ops.size - n) n 0 L _ w (by omega) (Nat.le_refl _) hsz hall hn (by omega) (hend u w hI fun j hj => hR j (hall j hj))
    | succ fuel ih =>
      intro L n u w hsz hcnt hf hn hI hC hR
      by_cases hall : ∀ j, j < t → L.getD j false = true
      · have hz : (L.toList.take t).countP (fun b => !b) = 0 := by
          rw [List.countP_eq_zero]
          intro b hb
          rw [List.mem_take_iff_getElem] at hb
          obtain ⟨j, hj, rfl⟩ := hb
          have hj2 : j < t := by omega
          have hj3 : j < L.size := by omega
          have := hall j hj2
          simp only [Array.getD, hj3, dif_pos] at this
          simp
          exact this
        have hnt : n = t := by omega
        subst hnt
        exact wpAny_tail htl hord (ops.size - n) n (fuel + 1) L _ w (by omega) (Nat.le_refl _) hsz hall hn (by omega) (hend u w hI fun j hj => hR j (hall j hj))
      · have hex : ∃ j, j < t ∧ L.getD j false = false := by
          apply Classical.byContradiction
          intro hno
          apply hall
          intro j hj
          cases hb : L.getD j false
          · exact absurd ⟨j, hj, hb⟩ hno
          · rfl
        obtain ⟨j0, hj0, hl0⟩ := hex
        have hj0s : j0 < ops.size := by omega
        have hl0' : L.getD j0 true = false := by simpa [Array.getD, hsz, hj0s] using hl0
        refine ⟨fun hnil => absurd hnil (ready_some hord hsz hl0'), fun i hi => ?_⟩
        obtain ⟨o, ho, hli, hd⟩ := ready_deps hi
        have hio := (Array.getElem?_eq_some_iff.1 ho).1
        have hilt : i < L.size := by omega
        have hli' : L.getD i false = false := by simpa [Array.getD, hilt] using hli
        have hit : i < t := by
          apply Nat.lt_of_not_le; intro hle
          have := reach_listed hC _ _ hd j0 (tails_of htl hle ho (by omega))
          rw [hl0] at this; cases this
        have hget : ∀ j, (L.setIfInBounds i true).getD j false = if j = i then true else L.getD j false := by
          intro j
          simp only [Array.getD_eq_getD_getElem?, Array.getElem?_setIfInBounds]
          by_cases e : i = j
          · subst e; simp [hilt]
          · rw [if_neg e, if_neg (fun e' => e e'.symm)]
        have hpos : 0 < (L.toList.take t).countP (fun b => !b) := by
          refine List.countP_pos_iff.2 ⟨false, ?_, rfl⟩
          rw [List.mem_take_iff_getElem]
          exact ⟨i, by simp; omega, by simpa [Array.getD, hilt] using hli⟩
        have hcnt' : ((L.setIfInBounds i true).toList.take t).countP (fun b => !b) + (n + 1) = t := by
          have h1 : L[i] = false := by simpa [Array.getD, hilt] using hli
          rw [Array.toList_setIfInBounds]
          have hli2 : i < L.toList.length := by simpa using hilt
          have hlt2 : i < (L.toList.take t).length := by simp; omega
          rw [List.take_set, List.set_eq_take_append_cons_drop, if_pos hlt2, List.countP_append, List.countP_cons]
          have h2 : L.toList.take t = (L.toList.take t).take i ++ (L.toList.take t)[i] :: (L.toList.take t).drop (i + 1) := by
            rw [← List.drop_eq_getElem_cons hlt2, List.take_append_drop]
          rw [h2, List.countP_append, List.countP_cons] at hcnt
          simp only [List.getElem_take, Array.getElem_toList, h1, Bool.not_false, if_true, Bool.not_true, Bool.false_eq_true, if_false] at hcnt ⊢
          omega
        have h := hstep i o ho hit n u w (by omega) hI fun j hj => hR j (hd j hj)
        have hnext : ∀ a' w', StoodA I S R a sl u n i o w Q .normal a' w' → wpAny P .any ops Q fuel (L.setIfInBounds i true) a' w' := by
          intro a' w' hq
          obtain ⟨v, rfl, hI', hS, hv⟩ := hq
          rw [putAll_put hs ho]
          refine ih _ (n + 1) _ _ (by simpa using hsz) hcnt' (by omega) ?_ hI' ?_ ?_
          · intro j hj
            rw [hget, if_neg (by omega)]
            exact hn j hj
          · intro j oj hoj hlj k hk
            rw [hget] at hlj ⊢
            split
            · rfl
            · next e =>
              by_cases ej : j = i
              · subst ej
                rw [ho] at hoj
                obtain rfl := Option.some.inj hoj
                exact hd k hk
              · rw [if_neg ej] at hlj
                exact hC j oj hoj hlj k hk
          · intro j hlj
            rw [hget] at hlj
            by_cases ej : j = i
            · subst ej; simpa [upd] using hv
            · rw [if_neg ej] at hlj
              simp only [upd, if_neg ej]
              exact hmono _ _ _ _ (hR j hlj) hS
        unfold wpOp
        rw [ho]
        simp only [wpList] at h
        simp only
        split at h
        · next hw =>
          rw [if_pos hw]
          refine h.imp (wp_swap hnext (fun _ _ _ h => h) fun ⟨x, y, h⟩ => ⟨x, y, h⟩) fun ⟨h1, h2⟩ => ⟨h1, ?_⟩
          obtain ⟨x, y, h2⟩ := h2
          exact ⟨x, y, h2⟩
        · next hw => rw [if_neg hw]; exact hnext _ _ h
  refine wp_region_any hm ?_
  have hno : ∀ j, (Array.replicate ops.size false).getD j false = false := by
    intro j
    simp only [Array.getD_eq_getD_getElem?, Array.getElem?_replicate]
    split <;> rfl
  rw [putAll_self hs a]
  refine key _ _ 0 _ _ (by simp) ?_ (by omega) (fun j _ => hno j) h0 (fun j o _ h => by rw [hno] at h; cases h) (fun j h => by rw [hno] at h; cases h)
  rw [Array.toList_replicate, List.take_replicate, List.countP_replicate]
  simp
  omega
end Go.Proofs.Ytiidphlfpiaoeaa
