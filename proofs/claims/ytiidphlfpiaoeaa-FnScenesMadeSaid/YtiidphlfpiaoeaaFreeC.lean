/- A region that draws its order, of which some operations stand in a chain and the others float; conditions: none. -/
import Derived.Test.YtiidphlfpiaoeaaFreeD
namespace Go.Proofs.Ytiidphlfpiaoeaa
open Go.RowKit

/-- each of the chain waits for the one before it -/
def chainOk (ops : Array Oper) (t : Nat) (ch : List Nat) : Bool :=
  (List.range ch.length).all fun q => decide (ch.getD q 0 < t) && (q == 0 || (reach ops ops.size ((ops[ch.getD q 0]?).elim [] deps)).contains (ch.getD (q - 1) 0)) && (List.range q).all fun p => ch.getD p 0 != ch.getD q 0

def StoodH (S : World → World → Prop) (K : Value → World → Prop) (a : Act) (sl : List (Option Nat)) (u : Nat → Value) (o : Oper) (w : World) (Q : Exit → Act → World → Prop) : Exit → Act → World → Prop
  | .normal, a', w' => ∃ v, a' = (putAll a sl u).put o.dst v ∧ S w w' ∧ K v w'
  | e, a', w' => Q e a' w'

theorem wp_region_chain {P : Program} {ops : Array Oper} {Q : Exit → Act → World → Prop} {a : Act} {w0 : World} {id : Nat} (hm : P.follows .mixedOrders = true)
    (sl : List (Option Nat)) (t : Nat) (hs : slotsB ops sl = true) (hord : orderB ops = true) (htl : tailsB ops t = true) (ht : t ≤ ops.size) (tl : List Oper) (htl2 : ops.toList.drop t = tl)
    (ch : List Nat) (hch : chainOk ops t ch = true)
    (S : World → World → Prop) (R : Nat → Value → World → Prop) (I : Nat → (Nat → Value) → World → Prop)
    (hmono : ∀ i v w w', R i v w → S w w' → R i v w') (h0 : ∀ u, I 0 u w0.drew)
    (hfloat : ∀ i o, ops[i]? = some o → i < t → i ∉ ch → ∀ s u w, I s u w → (∀ j ∈ deps o, j ∉ ch → R j (u j) w) → (∀ q, q < ch.length → ch.getD q 0 ∈ deps o → q < s) → s ≤ ch.length → (∀ q o', q < s → ops[ch.getD q 0]? = some o' → i ∉ deps o') → wpList P ops (StoodH S (fun v w' => I s (upd u i v) w' ∧ R i v w') a sl u o w Q) [o] (putAll a sl u) w)
    (hchain : ∀ s o, s < ch.length → ops[ch.getD s 0]? = some o → ∀ u w, I s u w → (∀ j ∈ deps o, j ∉ ch → R j (u j) w) → wpList P ops (StoodH S (fun v w' => I (s + 1) (upd u (ch.getD s 0) v) w') a sl u o w Q) [o] (putAll a sl u) w)
    (hend : ∀ u w, I ch.length u w → (∀ j, j < t → j ∉ ch → R j (u j) w) → wpList P ops Q tl (putAll a sl u) w) :
    (Code.region id ops true).wp P Q a w0 := by
  subst htl2
  simp only [chainOk, List.all_eq_true, List.mem_range, Bool.and_eq_true, decide_eq_true_eq, Bool.or_eq_true, beq_iff_eq, bne_iff_ne] at hch
  have hmem : ∀ q, q < ch.length → ch.getD q 0 ∈ ch := fun q hq => by
    rw [List.getD_eq_getElem?_getD, List.getElem?_eq_getElem hq]; simp
  have hof : ∀ i, i ∈ ch → ∃ q, q < ch.length ∧ ch.getD q 0 = i := fun i hi => by
    obtain ⟨q, hq, e⟩ := List.getElem_of_mem hi
    exact ⟨q, hq, by rw [List.getD_eq_getElem?_getD, List.getElem?_eq_getElem hq]; exact e⟩
  have key : ∀ fuel (L : Array Bool) (n s : Nat) (u : Nat → Value) (w : World), L.size = ops.size → ((L.toList.take t).countP (fun b => !b) + n = t) → t - n + (ops.size - t) ≤ fuel → (∀ j, t ≤ j → L.getD j false = false) → s ≤ ch.length → (∀ q, q < ch.length → (L.getD (ch.getD q 0) false = true ↔ q < s)) → I s u w →
      (∀ j o, ops[j]? = some o → L.getD j false = true → ∀ k ∈ deps o, L.getD k false = true) → (∀ j, j ∉ ch → L.getD j false = true → R j (u j) w) →
      wpAny P .any ops Q fuel L (putAll a sl u) w := by
    intro fuel
    induction fuel with
    | zero =>
      intro L n s u w hsz hcnt hf hn hsl hcl hI hC hR
      have hnt : n = t := by omega
      subst hnt
      have hall : ∀ j, j < n → L.getD j false = true := by
        intro j hj
        have hj' : j < L.size := by omega
        cases hLj : L[j] with
        | true => simp [Array.getD, hj', hLj]
        | false =>
          have hmem : false ∈ L.toList.take n := by
            rw [List.mem_take_iff_getElem]
            exact ⟨j, by simp; omega, by simpa using hLj⟩
          have hpos : 0 < (L.toList.take n).countP (fun b => !b) := List.countP_pos_iff.2 ⟨false, hmem, rfl⟩
          omega
      have hse : s = ch.length := by
        apply Classical.byContradiction
        intro hne
        have hlt : s < ch.length := by omega
        have := (hcl s hlt).1 (hall _ (hch s hlt).1.1)
        omega
      subst hse
      exact wpAny_tail htl hord (ops.size - n) n 0 L _ w (by omega) (Nat.le_refl _) hsz hall hn (by omega) (hend u w hI fun j hj hj2 => hR j hj2 (hall j hj))
    | succ fuel ih =>
      intro L n s u w hsz hcnt hf hn hsl hcl hI hC hR
      by_cases hall : ∀ j, j < t → L.getD j false = true
      · have hz : (L.toList.take t).countP (fun b => !b) = 0 := by
          rw [List.countP_eq_zero]
          intro b hb
          rw [List.mem_take_iff_getElem] at hb
          obtain ⟨j, hj, rfl⟩ := hb
          have hj2 : j < t := by omega
          have hj3 : j < L.size := by omega
          have := hall j hj2
          simp only [Array.getD, hj3, dif_pos] at this
          simp
          exact this
        have hnt : n = t := by omega
        subst hnt
        have hse : s = ch.length := by
          apply Classical.byContradiction
          intro hne
          have hlt : s < ch.length := by omega
          have := (hcl s hlt).1 (hall _ (hch s hlt).1.1)
          omega
        subst hse
        exact wpAny_tail htl hord (ops.size - n) n (fuel + 1) L _ w (by omega) (Nat.le_refl _) hsz hall hn (by omega) (hend u w hI fun j hj hj2 => hR j hj2 (hall j hj))
      · have hex : ∃ j, j < t ∧ L.getD j false = false := by
          apply Classical.byContradiction
          intro hno
          apply hall
          intro j hj
          cases hb : L.getD j false
          · exact absurd ⟨j, hj, hb⟩ hno
          · rfl
        obtain ⟨j0, hj0, hl0⟩ := hex
        have hj0s : j0 < ops.size := by omega
        have hl0' : L.getD j0 true = false := by simpa [Array.getD, hsz, hj0s] using hl0
        refine ⟨fun hnil => absurd hnil (ready_some hord hsz hl0'), fun i hi => ?_⟩
        obtain ⟨o, ho, hli, hd⟩ := ready_deps hi
        have hio := (Array.getElem?_eq_some_iff.1 ho).1
        have hilt : i < L.size := by omega
        have hli' : L.getD i false = false := by simpa [Array.getD, hilt] using hli
        have hit : i < t := by
          apply Nat.lt_of_not_le; intro hle
          have := reach_listed hC _ _ hd j0 (tails_of htl hle ho (by omega))
          rw [hl0] at this; cases this
        have hget : ∀ j, (L.setIfInBounds i true).getD j false = if j = i then true else L.getD j false := by
          intro j
          simp only [Array.getD_eq_getD_getElem?, Array.getElem?_setIfInBounds]
          by_cases e : i = j
          · subst e; simp [hilt]
          · rw [if_neg e, if_neg (fun e' => e e'.symm)]
        have hpos : 0 < (L.toList.take t).countP (fun b => !b) := by
          refine List.countP_pos_iff.2 ⟨false, ?_, rfl⟩
          rw [List.mem_take_iff_getElem]
          exact ⟨i, by simp; omega, by simpa [Array.getD, hilt] using hli⟩
        have hcnt' : ((L.setIfInBounds i true).toList.take t).countP (fun b => !b) + (n + 1) = t := by
          have h1 : L[i] = false := by simpa [Array.getD, hilt] using hli
          rw [Array.toList_setIfInBounds]
          have hli2 : i < L.toList.length := by simpa using hilt
          have hlt2 : i < (L.toList.take t).length := by simp; omega
          rw [List.take_set, List.set_eq_take_append_cons_drop, if_pos hlt2, List.countP_append, List.countP_cons]
          have h2 : L.toList.take t = (L.toList.take t).take i ++ (L.toList.take t)[i] :: (L.toList.take t).drop (i + 1) := by
            rw [← List.drop_eq_getElem_cons hlt2, List.take_append_drop]
          rw [h2, List.countP_append, List.countP_cons] at hcnt
          simp only [List.getElem_take, Array.getElem_toList, h1, Bool.not_false, if_true, Bool.not_true, Bool.false_eq_true, if_false] at hcnt ⊢
          omega
        have hC' : ∀ j oj, ops[j]? = some oj → (L.setIfInBounds i true).getD j false = true → ∀ k ∈ deps oj, (L.setIfInBounds i true).getD k false = true := by
          intro j oj hoj hlj k hk
          rw [hget] at hlj ⊢
          split
          · rfl
          · next e =>
            by_cases ej : j = i
            · subst ej
              rw [ho] at hoj
              obtain rfl := Option.some.inj hoj
              exact hd k hk
            · rw [if_neg ej] at hlj
              exact hC j oj hoj hlj k hk
        have hn' : ∀ j, t ≤ j → (L.setIfInBounds i true).getD j false = false := by
          intro j hj
          rw [hget, if_neg (by omega)]
          exact hn j hj
        have hfin : ∀ (K : Value → World → Prop), wpList P ops (StoodH S K a sl u o w Q) [o] (putAll a sl u) w →
            (∀ v w', S w w' → K v w' → wpAny P .any ops Q fuel (L.setIfInBounds i true) (putAll a sl (upd u i v)) w') → wpOp P ops Q i (wpAny P .any ops Q fuel (L.setIfInBounds i true)) (putAll a sl u) w := by
          intro K h hK
          have hnext : ∀ a' w', StoodH S K a sl u o w Q .normal a' w' → wpAny P .any ops Q fuel (L.setIfInBounds i true) a' w' := by
            intro a' w' hq
            obtain ⟨v, rfl, hS, hv⟩ := hq
            rw [putAll_put hs ho]
            exact hK v w' hS hv
          unfold wpOp
          rw [ho]
          simp only [wpList] at h
          simp only
          split at h
          · next hw =>
            rw [if_pos hw]
            refine h.imp (wp_swap hnext (fun _ _ _ h => h) fun ⟨x, y, h⟩ => ⟨x, y, h⟩) fun ⟨h1, h2⟩ => ⟨h1, ?_⟩
            obtain ⟨x, y, h2⟩ := h2
            exact ⟨x, y, h2⟩
          · next hw => rw [if_neg hw]; exact hnext _ _ h
        by_cases hic : i ∈ ch
        · obtain ⟨q, hq, rfl⟩ := hof i hic
          have hqs : ¬ q < s := fun e => by
            have := (hcl q hq).2 e
            rw [hli'] at this; cases this
          have hqe : q = s := by
            apply Classical.byContradiction
            intro hne
            have h1 := ((hch q hq).1.2).resolve_left (by omega)
            rw [List.contains_iff_mem, ho] at h1
            have h2 := reach_listed hC _ _ hd _ h1
            have := (hcl (q - 1) (by omega)).1 h2
            omega
          subst hqe
          refine hfin _ (hchain q o hq ho u w hI fun j hj hj2 => hR j hj2 (hd j hj)) fun v w' hS hI' => ?_
          refine ih _ (n + 1) (q + 1) _ _ (by simpa using hsz) hcnt' (by omega) hn' (by omega) ?_ hI' hC' ?_
          · intro p hp
            rw [hget]
            by_cases e : p = q
            · subst e; simp
            · have hne : ch.getD p 0 ≠ ch.getD q 0 := by
                rcases Nat.lt_or_gt_of_ne e with hlt | hgt
                · exact (hch q hq).2 p hlt
                · exact fun e2 => (hch p hp).2 q hgt e2.symm
              rw [if_neg hne, hcl p hp]
              omega
          · intro j hj hlj
            rw [hget] at hlj
            have hne : j ≠ ch.getD q 0 := fun e => hj (e ▸ hic)
            rw [if_neg hne] at hlj
            simp only [upd, if_neg hne]
            exact hmono _ _ _ _ (hR j hj hlj) hS
        · refine hfin _ (hfloat i o ho hit hic s u w hI (fun j hj hj2 => hR j hj2 (hd j hj)) (fun q hq hqd => (hcl q hq).1 (hd _ hqd)) hsl (fun q o' hq ho' hdi => by
            have h1 := (hcl q (by omega)).2 hq
            have h2 := hC _ _ ho' h1 _ hdi
            rw [hli'] at h2; cases h2)) fun v w' hS hI' => ?_
          refine ih _ (n + 1) s _ _ (by simpa using hsz) hcnt' (by omega) hn' hsl ?_ hI'.1 hC' ?_
          · intro p hp
            have hne : ch.getD p 0 ≠ i := fun e => hic (e ▸ hmem p hp)
            rw [hget, if_neg hne, hcl p hp]
          · intro j hj hlj
            rw [hget] at hlj
            by_cases ej : j = i
            · subst ej; simpa [upd] using hI'.2
            · rw [if_neg ej] at hlj
              simp only [upd, if_neg ej]
              exact hmono _ _ _ _ (hR j hj hlj) hS
  refine wp_region_any hm ?_
  have hno : ∀ j, (Array.replicate ops.size false).getD j false = false := by
    intro j
    simp only [Array.getD_eq_getD_getElem?, Array.getElem?_replicate]
    split <;> rfl
  rw [putAll_self hs a]
  refine key _ _ 0 0 _ _ (by simp) ?_ (by omega) (fun j _ => hno j) (Nat.zero_le _) (fun q hq => by rw [hno]; simp) (h0 _) (fun j o _ h => by rw [hno] at h; cases h) (fun j _ h => by rw [hno] at h; cases h)
  rw [Array.toList_replicate, List.take_replicate, List.countP_replicate]
  simp
  omega
end Go.Proofs.Ytiidphlfpiaoeaa
