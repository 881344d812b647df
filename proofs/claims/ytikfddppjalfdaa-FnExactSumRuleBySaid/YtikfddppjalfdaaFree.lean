/- A region that draws its order, whose operations only make memory: one walk of each operation by itself, whatever was before it; conditions: none. -/
import Derived.Test.YtikfddppjalfdaaLists
namespace Go.Proofs.Ytikfddppjalfdaa
open Go.RowKit

/-- the frame with the region's own slots filled: slot t holds 'u j' where the list says 'some j' -/
def fillL (u : Nat → Value) : List Value → List (Option Nat) → List Value
  | v :: vs, none :: ss => v :: fillL u vs ss
  | _ :: vs, some j :: ss => u j :: fillL u vs ss
  | vs, _ => vs
def putAll (a : Act) (sl : List (Option Nat)) (u : Nat → Value) : Act := { a with tmps := (fillL u a.tmps.toList sl).toArray }

theorem fillL_get (u : Nat → Value) (vs : List Value) (ss : List (Option Nat)) (t : Nat) :
    (fillL u vs ss)[t]? = if t < vs.length then (match ss[t]? with | some (some j) => some (u j) | _ => vs[t]?) else none := by
  induction vs generalizing ss t with
  | nil => cases ss <;> simp [fillL]
  | cons v vs ih =>
    cases ss with
    | nil =>
      simp only [fillL]
      by_cases h : t < (v :: vs).length
      · rw [if_pos h]; simp
      · rw [if_neg h]; simpa using h
    | cons s ss =>
      cases s with
      | none => cases t with
        | zero => simp [fillL]
        | succ t => simp only [fillL, List.getElem?_cons_succ, ih, List.length_cons, Nat.add_lt_add_iff_right]
      | some j => cases t with
        | zero => simp [fillL]
        | succ t => simp only [fillL, List.getElem?_cons_succ, ih, List.length_cons, Nat.add_lt_add_iff_right]

/-- the list says of each operation's slot that it is that operation's, and of no other -/
def slotsB (ops : Array Oper) (sl : List (Option Nat)) : Bool :=
  (List.range ops.size).all (fun i => match (ops[i]?).bind (·.dst) with | some d => sl[d]? == some (some i) | none => true) &&
  (List.range sl.length).all (fun t => match sl[t]? with | some (some j) => (ops[j]?).bind (·.dst) == some t | _ => true)
theorem slots_dst {ops : Array Oper} {sl : List (Option Nat)} (h : slotsB ops sl = true) {i d : Nat} {o : Oper} (ho : ops[i]? = some o) (hd : o.dst = some d) : sl[d]? = some (some i) := by
  simp only [slotsB, Bool.and_eq_true, List.all_eq_true, List.mem_range] at h
  have := h.1 i (Array.getElem?_eq_some_iff.1 ho).1
  rw [ho] at this
  simp only [Option.bind_some, hd] at this
  simpa using this
theorem slots_own {ops : Array Oper} {sl : List (Option Nat)} (h : slotsB ops sl = true) {t j : Nat} (ht : sl[t]? = some (some j)) : (ops[j]?).bind (·.dst) = some t := by
  simp only [slotsB, Bool.and_eq_true, List.all_eq_true, List.mem_range] at h
  have := h.2 t (List.getElem?_eq_some_iff.1 ht).1
  rw [ht] at this
  simpa using this

def upd (u : Nat → Value) (i : Nat) (v : Value) : Nat → Value := fun j => if j = i then v else u j

theorem act_ext {a b : Act} (h1 : ∀ t : Nat, a.tmps[t]? = b.tmps[t]?) (h2 : a.defers = b.defers) : a = b := by
  obtain ⟨x, y⟩ := a
  obtain ⟨x', y'⟩ := b
  have : x = x' := Array.ext_getElem? h1
  subst this
  simp only at h2
  subst h2
  rfl

theorem putAll_put {ops : Array Oper} {sl : List (Option Nat)} (h : slotsB ops sl = true) {i : Nat} {o : Oper} (ho : ops[i]? = some o) (a : Act) (u : Nat → Value) (v : Value) :
    (putAll a sl u).put o.dst v = putAll a sl (upd u i v) := by
  refine act_ext (fun t => ?_) ?_
  · cases hd : o.dst with
    | none =>
      simp only [Act.put, putAll, List.getElem?_toArray, fillL_get]
      split
      · cases hs : sl[t]? with
        | none => rfl
        | some s => cases s with
          | none => rfl
          | some j =>
            have := slots_own h hs
            have hne : j ≠ i := by intro e; subst e; rw [ho] at this; simp [hd] at this
            simp [upd, hne]
      · rfl
    | some d =>
      have hs := slots_dst h ho hd
      simp only [Act.put, putAll, Array.getElem?_setIfInBounds, List.getElem?_toArray, List.size_toArray, fillL_get]
      by_cases e : d = t
      · subst e
        rw [if_pos rfl, hs]
        have hlen : (fillL u a.tmps.toList sl).length = a.tmps.toList.length := by
          apply Nat.le_antisymm
          · apply Nat.le_of_not_lt; intro hlt
            have := fillL_get u a.tmps.toList sl a.tmps.toList.length
            rw [if_neg (Nat.lt_irrefl _), List.getElem?_eq_getElem hlt] at this
            cases this
          · apply Nat.le_of_not_lt; intro hlt
            have := fillL_get u a.tmps.toList sl (fillL u a.tmps.toList sl).length
            rw [if_pos hlt] at this
            simp only [List.getElem?_eq_none_iff.2 (Nat.le_refl _)] at this
            split at this
            · cases this
            · rw [List.getElem?_eq_getElem hlt] at this; cases this
        rw [hlen]
        split <;> simp [upd]
      · rw [if_neg e]
        split
        · cases hst : sl[t]? with
          | none => rfl
          | some s => cases s with
            | none => rfl
            | some j =>
              have := slots_own h hst
              have hne : j ≠ i := by intro e2; subst e2; rw [ho] at this; simp [hd] at this; exact e this
              simp [upd, hne]
        · rfl
  · cases hd : o.dst <;> rfl

theorem putAll_self {ops : Array Oper} {sl : List (Option Nat)} (h : slotsB ops sl = true) (a : Act) :
    a = putAll a sl (fun j => match (ops[j]?).bind (·.dst) with | some d => a.tmps.getD d undef | none => undef) := by
  refine act_ext (fun t => ?_) rfl
  simp only [putAll, List.getElem?_toArray, fillL_get]
  by_cases ht : t < a.tmps.toList.length
  · rw [if_pos ht]
    cases hs : sl[t]? with
    | none => simp
    | some s => cases s with
      | none => simp
      | some j =>
        have := slots_own h hs
        simp only [this]
        have ht' : t < a.tmps.size := by simpa using ht
        simp [ht']
  · rw [if_neg ht]
    simpa using ht

/-- what an operation waits for -/
def deps (o : Oper) : List Nat := (o.after.toList.filter (Region.binds .any)).map (·.on)
/-- all that is reached from a list over what each waits for -/
def reach (ops : Array Oper) : Nat → List Nat → List Nat
  | 0, s => s
  | f + 1, s => reach ops f (s ++ s.flatMap fun j => (ops[j]?).elim [] deps)
def lastB (ops : Array Oper) (last : Nat) : Bool :=
  (List.range ops.size).all fun j => j == last || (reach ops ops.size ((ops[last]?).elim [] deps)).contains j

/-- each waits for earlier ones alone -/
def orderB (ops : Array Oper) : Bool := (List.range ops.size).all fun i => ((ops[i]?).elim [] deps).all fun k => decide (k < i)

theorem ready_some {ops : Array Oper} (hord : orderB ops = true) {L : Array Bool} (hsz : L.size = ops.size) {last : Nat} (hl : L.getD last true = false) : Region.ready .any ops L ≠ [] := by
  have hlt : last < L.size := by
    apply Nat.lt_of_not_le; intro hle
    simp [Array.getD, Nat.not_lt.2 hle] at hl
  -- the least that is not listed
  have hex : ∃ i, i < L.size ∧ L.getD i true = false ∧ ∀ k, k < i → L.getD k true = true := by
    have : ∀ n, n < L.size → L.getD n true = false → ∃ i, i < L.size ∧ L.getD i true = false ∧ ∀ k, k < i → L.getD k true = true := by
      intro n
      induction n using Nat.strongRecOn with
      | _ n ih =>
        intro hn hf
        by_cases h : ∃ k, k < n ∧ L.getD k true = false
        · obtain ⟨k, hk, hkf⟩ := h
          exact ih k hk (by omega) hkf
        · refine ⟨n, hn, hf, fun k hk => ?_⟩
          cases hc : L.getD k true
          · exact absurd ⟨k, hk, hc⟩ h
          · rfl
    exact this last hlt hl
  obtain ⟨i, hi, hif, hbefore⟩ := hex
  have hio : i < ops.size := by omega
  intro hnil
  have : i ∈ Region.ready .any ops L := by
    simp only [Region.ready, List.mem_filter, List.mem_range, Bool.and_eq_true, Bool.not_eq_true']
    refine ⟨hio, hif, ?_⟩
    rw [Array.getElem?_eq_getElem hio]
    simp only [Option.map_some, Option.getD_some, Array.all_eq_true_iff_forall_mem, Bool.or_eq_true, Bool.not_eq_true']
    intro e he
    cases hb : Region.binds .any e
    · exact .inl rfl
    · right
      simp only [orderB, List.all_eq_true, List.mem_range] at hord
      have h1 := hord i hio e.on (by
        rw [Array.getElem?_eq_getElem hio]
        simp only [Option.elim_some, deps, List.mem_map, List.mem_filter]
        exact ⟨e, ⟨by simpa using he, hb⟩, rfl⟩)
      have hk : e.on < i := by simpa using h1
      have h2 := hbefore e.on hk
      have h3 : e.on < L.size := by omega
      simp only [Array.getD, h3, dif_pos] at h2 ⊢
      exact h2
  rw [hnil] at this
  cases this

theorem reach_listed {ops : Array Oper} {L : Array Bool} (hC : ∀ j o, ops[j]? = some o → L.getD j false = true → ∀ k ∈ deps o, L.getD k false = true) :
    ∀ f s, (∀ j ∈ s, L.getD j false = true) → ∀ j ∈ reach ops f s, L.getD j false = true := by
  intro f
  induction f with
  | zero => intro s h j hj; exact h j hj
  | succ f ih =>
    intro s h j hj
    refine ih _ (fun k hk => ?_) j hj
    rw [List.mem_append] at hk
    rcases hk with hk | hk
    · exact h k hk
    · obtain ⟨m, hm, hk⟩ := List.mem_flatMap.1 hk
      cases ho : ops[m]? with
      | none => rw [ho] at hk; simp at hk
      | some o => rw [ho] at hk; exact hC m o ho (h m hm) k hk

theorem ready_deps {ops : Array Oper} {L : Array Bool} {i : Nat} (h : i ∈ Region.ready .any ops L) : ∃ o, ops[i]? = some o ∧ L.getD i true = false ∧ ∀ k ∈ deps o, L.getD k false = true := by
  simp only [Region.ready, List.mem_filter, List.mem_range, Bool.and_eq_true, Bool.not_eq_true'] at h
  obtain ⟨hi, h1, h2⟩ := h
  refine ⟨ops[i], Array.getElem?_eq_getElem hi, h1, fun k hk => ?_⟩
  rw [Array.getElem?_eq_getElem hi] at h2
  simp only [Option.map_some, Option.getD_some, Array.all_eq_true_iff_forall_mem, Bool.or_eq_true, Bool.not_eq_true'] at h2
  simp only [deps, List.mem_map, List.mem_filter] at hk
  obtain ⟨e, ⟨he, hb⟩, rfl⟩ := hk
  rcases h2 e (by simpa using he) with h3 | h3
  · rw [h3] at hb; cases hb
  · exact h3

/-- what the others leave, in whatever order -/
def Stood (a : Act) (sl : List (Option Nat)) (R : Nat → Value → World → Prop) (u : Nat → Value) (i : Nat) (o : Oper) (w : World) (Q : Exit → Act → World → Prop) : Exit → Act → World → Prop
  | .normal, a', w' => ∃ v, a' = (putAll a sl u).put o.dst v ∧ Below w.heap.size w w' ∧ R i v w'
  | e, a', w' => Q e a' w'

theorem wp_swap {P : Program} {o : Oper} {a : Act} {w : World} {K K' : Act → World → Prop} {Q Q' : Exit → Act → World → Prop} (hK : ∀ a w, K a w → K' a w) (hp : ∀ c a w, Q (.panic c) a w → Q' (.panic c) a w) (hl : LetsOut Q → LetsOut Q')
    (h : o.wp P a w K Q) : o.wp P a w K' Q' := by
  unfold Oper.wp at *
  generalize (execOp a.eval o).run P w = r at *
  cases r with
  | ok n w' =>
    cases n <;> simp only [Oper.upon] at h ⊢ <;>
      first
        | exact hK _ _ h
        | exact Calls.mono h (fun e w'' he => by cases e <;> first | exact hK _ _ he | exact hp _ _ _ he | exact hl he)
        | exact Rows.mono h (fun _ _ he => hK _ _ he)
  | halt x w' => cases x <;> simp only [Oper.upon] at h ⊢ <;> first | exact hp _ _ _ h | exact h

theorem wp_region_free {P : Program} {ops : Array Oper} {Q : Exit → Act → World → Prop} {a : Act} {w0 : World} {id : Nat} (hm : P.follows .mixedOrders = true)
    (sl : List (Option Nat)) (last : Nat) (hs : slotsB ops sl = true) (hlast : lastB ops last = true) (hord : orderB ops = true) (ol : Oper) (hol : ops[last]? = some ol)
    (R : Nat → Value → World → Prop) (hmono : ∀ i v w w', R i v w → Below w.heap.size w w' → R i v w')
    (hstep : ∀ i o, ops[i]? = some o → i ≠ last → ∀ u w, Below w0.heap.size w0 w → (∀ j ∈ deps o, R j (u j) w) → wpList P ops (Stood a sl R u i o w Q) [o] (putAll a sl u) w)
    (hend : ∀ u w, Below w0.heap.size w0 w → (∀ j, j < ops.size → j ≠ last → R j (u j) w) → wpList P ops Q [ol] (putAll a sl u) w) :
    (Code.region id ops true).wp P Q a w0 := by
  have key : ∀ fuel (L : Array Bool) (u : Nat → Value) (w : World), L.size = ops.size → (L.toList.countP (fun b => !b) ≤ fuel) → L.getD last true = false → Below w0.heap.size w0 w →
      (∀ j o, ops[j]? = some o → L.getD j false = true → ∀ k ∈ deps o, L.getD k false = true) → (∀ j, L.getD j false = true → R j (u j) w) →
      wpAny P .any ops Q fuel L (putAll a sl u) w := by
    intro fuel
    induction fuel with
    | zero =>
      intro L u w hsz hcnt hl
      exfalso
      have hlt : last < L.size := by
        apply Nat.lt_of_not_le; intro hle
        simp [Array.getD, Nat.not_lt.2 hle] at hl
      have : L[last] = false := by simpa [Array.getD, hlt] using hl
      have hmem : false ∈ L.toList := by rw [← this]; simp
      have hpos : 0 < L.toList.countP (fun b => !b) := List.countP_pos_iff.2 ⟨false, hmem, rfl⟩
      omega
    | succ fuel ih =>
      intro L u w hsz hcnt hl hb hC hR
      have hready : ∀ i ∈ Region.ready .any ops L, wpOp P ops Q i (wpAny P .any ops Q fuel (L.setIfInBounds i true)) (putAll a sl u) w := by
        intro i hi
        obtain ⟨o, ho, hli, hd⟩ := ready_deps hi
        have hilt : i < L.size := by rw [hsz]; exact (Array.getElem?_eq_some_iff.1 ho).1
        have hget : ∀ j, (L.setIfInBounds i true).getD j false = if j = i then true else L.getD j false := by
          intro j
          simp only [Array.getD_eq_getD_getElem?, Array.getElem?_setIfInBounds]
          by_cases e : i = j
          · subst e; simp [hilt]
          · rw [if_neg e, if_neg (fun e' => e e'.symm)]
        have hcnt' : (L.setIfInBounds i true).toList.countP (fun b => !b) ≤ fuel := by
          have h1 : L[i] = false := by simpa [Array.getD, hilt] using hli
          rw [Array.toList_setIfInBounds]
          have hli' : i < L.toList.length := by simpa using hilt
          rw [List.set_eq_take_append_cons_drop, if_pos hli', List.countP_append, List.countP_cons]
          have h2 : L.toList = L.toList.take i ++ L.toList[i] :: L.toList.drop (i + 1) := by
            rw [← List.drop_eq_getElem_cons hli', List.take_append_drop]
          rw [h2, List.countP_append, List.countP_cons] at hcnt
          simp only [Array.getElem_toList, h1, Bool.not_false, if_true, Bool.not_true, Bool.false_eq_true, if_false] at hcnt ⊢
          omega
        by_cases hil : i = last
        · subst hil
          -- all others are listed
          rw [ho] at hol
          obtain rfl := Option.some.inj hol
          have hall : ∀ j, j < ops.size → j ≠ i → L.getD j false = true := by
            intro j hj hne
            simp only [lastB, List.all_eq_true, List.mem_range] at hlast
            have := hlast j hj
            simp only [Bool.or_eq_true, beq_iff_eq, hne, false_or, List.contains_iff_mem, ho, Option.elim_some] at this
            exact reach_listed hC _ _ hd j this
          have hnone : Region.ready .any ops (L.setIfInBounds i true) = [] := by
            rw [List.eq_nil_iff_forall_not_mem]
            intro j hj
            obtain ⟨o', ho', hlj, -⟩ := ready_deps hj
            have hjl := (Array.getElem?_eq_some_iff.1 ho').1
            have : (L.setIfInBounds i true).getD j false = true := by
              rw [hget]; split
              · rfl
              · next e => exact hall j hjl e
            simp only [Array.getD, Array.size_setIfInBounds, hsz, hjl, dif_pos] at this hlj
            rw [this] at hlj; cases hlj
          have hfin : ∀ a' w', Q .normal a' w' → wpAny P .any ops Q fuel (L.setIfInBounds i true) a' w' := by
            intro a' w' hq
            cases fuel with
            | zero => exact ⟨hnone, hq⟩
            | succ f => exact ⟨fun _ => hq, fun j hj => by rw [hnone] at hj; cases hj⟩
          have h := hend u w hb fun j hj hne => hR j (hall j hj hne)
          unfold wpOp
          rw [ho]
          simp only [wpList] at h
          simp only
          split at h
          · next hw => rw [if_pos hw]; exact h.imp (Oper.wp_mono fun a' w' hq => hfin a' w' hq) (fun x => x)
          · next hw => rw [if_neg hw]; exact hfin _ _ h
        · have h := hstep i o ho hil u w hb fun j hj => hR j (hd j hj)
          have hnext : ∀ a' w', Stood a sl R u i o w Q .normal a' w' → wpAny P .any ops Q fuel (L.setIfInBounds i true) a' w' := by
            intro a' w' hq
            obtain ⟨v, rfl, hbw, hv⟩ := hq
            rw [putAll_put hs ho]
            refine ih _ _ _ (by simpa using hsz) hcnt' ?_ (hb.trans (hbw.mono hb.size)) ?_ ?_
            · simp only [Array.getD_eq_getD_getElem?, Array.getElem?_setIfInBounds, if_neg hil] at hl ⊢
              exact hl
            · intro j oj hoj hlj k hk
              rw [hget] at hlj ⊢
              split
              · rfl
              · next e =>
                by_cases ej : j = i
                · subst ej
                  rw [ho] at hoj
                  obtain rfl := Option.some.inj hoj
                  exact hd k hk
                · rw [if_neg ej] at hlj
                  exact hC j oj hoj hlj k hk
            · intro j hlj
              rw [hget] at hlj
              by_cases ej : j = i
              · subst ej; simpa [upd] using hv
              · rw [if_neg ej] at hlj
                simp only [upd, if_neg ej]
                exact hmono j _ _ _ (hR j hlj) hbw
          unfold wpOp
          rw [ho]
          simp only [wpList] at h
          simp only
          split at h
          · next hw =>
            rw [if_pos hw]
            refine h.imp (wp_swap hnext (fun _ _ _ h => h) fun ⟨x, y, h⟩ => ⟨x, y, h⟩) fun ⟨h1, h2⟩ => ⟨h1, ?_⟩
            obtain ⟨x, y, h2⟩ := h2
            exact ⟨x, y, h2⟩
          · next hw => rw [if_neg hw]; exact hnext _ _ h
      exact ⟨fun hnil => absurd hnil (ready_some hord hsz hl), hready⟩
  refine wp_region_any hm ?_
  have hlt : last < ops.size := (Array.getElem?_eq_some_iff.1 hol).1
  have hno : ∀ j, (Array.replicate ops.size false).getD j false = false := by
    intro j
    simp only [Array.getD_eq_getD_getElem?, Array.getElem?_replicate]
    split <;> rfl
  rw [putAll_self hs a]
  refine key _ _ _ _ (by simp) ?_ ?_ ⟨rfl, rfl, rfl, Nat.le_refl _, fun _ _ => rfl⟩ (fun j o _ h => by rw [hno] at h; cases h) (fun j h => by rw [hno] at h; cases h)
  · refine Nat.le_trans (List.countP_le_length) ?_
    simp
  · simp [Array.getD, hlt]

/-! ### the same, where an operation's relation names what it waits for, the blocks that each made are its own, and operation i may write to the blocks W i -/
def updI (g : Nat → Nat × Nat) (i : Nat) (x : Nat × Nat) : Nat → Nat × Nat := fun j => if j = i then x else g j
def depsAt (ops : Array Oper) (i : Nat) : List Nat := (ops[i]?).elim [] deps
def Stood3 (W : Nat → Nat → Prop) (a : Act) (sl : List (Option Nat)) (R : Nat → Value → Nat × Nat → (Nat → Value) → (Nat → Nat × Nat) → World → Prop) (u : Nat → Value) (g : Nat → Nat × Nat) (i : Nat) (o : Oper) (w : World) (Q : Exit → Act → World → Prop) : Exit → Act → World → Prop
  | .normal, a', w' => ∃ v, a' = (putAll a sl u).put o.dst v ∧ KeptOff (W i) w w' ∧ R i v (w.heap.size, w'.heap.size) u g w'
  | e, a', w' => Q e a' w'
/-- the intervals: within the region's own, apart -/
structure Apart (lo hi : Nat) (L : Nat → Prop) (g : Nat → Nat × Nat) : Prop where
  inn : ∀ j, L j → lo ≤ (g j).1 ∧ (g j).1 ≤ (g j).2 ∧ (g j).2 ≤ hi
  two : ∀ i j, L i → L j → i ≠ j → (g i).2 ≤ (g j).1 ∨ (g j).2 ≤ (g i).1
theorem Apart.add {lo hi hi' : Nat} {L : Nat → Prop} {g : Nat → Nat × Nat} (h : Apart lo hi L g) (i : Nat) (h1 : lo ≤ hi) (h2 : hi ≤ hi') : Apart lo hi' (fun j => j = i ∨ L j) (updI g i (hi, hi')) := by
  refine ⟨fun j hj => ?_, fun k j hk hj hne => ?_⟩
  · unfold updI
    by_cases e : j = i
    · rw [if_pos e]; exact ⟨h1, h2, Nat.le_refl _⟩
    · rw [if_neg e]
      have := h.inn j (hj.resolve_left e)
      exact ⟨this.1, this.2.1, Nat.le_trans this.2.2 h2⟩
  · unfold updI
    by_cases e1 : k = i
    · rw [if_pos e1, if_neg (by intro e; exact hne (e1.trans e.symm))]
      right
      exact (h.inn j (hj.resolve_left (by intro e; exact hne (e1.trans e.symm)))).2.2
    · rw [if_neg e1]
      by_cases e2 : j = i
      · rw [if_pos e2]
        left
        exact (h.inn k (hk.resolve_left e1)).2.2
      · rw [if_neg e2]
        exact h.two k j (hk.resolve_left e1) (hj.resolve_left e2) hne
theorem Apart.sub {lo hi : Nat} {L L' : Nat → Prop} {g : Nat → Nat × Nat} (h : Apart lo hi L g) (hs : ∀ j, L' j → L j) : Apart lo hi L' g :=
  ⟨fun j hj => h.inn j (hs j hj), fun i j hi hj => h.two i j (hs i hi) (hs j hj)⟩

theorem wp_region_free3 {P : Program} {ops : Array Oper} {Q : Exit → Act → World → Prop} {a : Act} {w0 : World} {id : Nat} (hm : P.follows .mixedOrders = true)
    (sl : List (Option Nat)) (last : Nat) (hs : slotsB ops sl = true) (hlast : lastB ops last = true) (hord : orderB ops = true) (ol : Oper) (hol : ops[last]? = some ol)
    (W : Nat → Nat → Prop) (R : Nat → Value → Nat × Nat → (Nat → Value) → (Nat → Nat × Nat) → World → Prop) (hmono : ∀ i j v x u g w w', j ≠ i → R i v x u g w → KeptOff (W j) w w' → R i v x u g w')
    (hstab : ∀ i v x u u' g g' w, (∀ j ∈ depsAt ops i, u j = u' j ∧ g j = g' j) → R i v x u g w → R i v x u' g' w)
    (hstep : ∀ i o, ops[i]? = some o → i ≠ last → ∀ u g w, KeptOff (fun k => ∃ j, j ≠ i ∧ ¬ i ∈ depsAt ops j ∧ W j k) w0 w → (∀ j ∈ deps o, R j (u j) (g j) u g w) → Apart w0.heap.size w.heap.size (fun j => j ∈ deps o) g → wpList P ops (Stood3 W a sl R u g i o w Q) [o] (putAll a sl u) w)
    (hend : ∀ u g w, KeptOff (fun k => ∃ j, j ≠ last ∧ W j k) w0 w → (∀ j, j < ops.size → j ≠ last → R j (u j) (g j) u g w) → Apart w0.heap.size w.heap.size (fun j => j < ops.size ∧ j ≠ last) g → wpList P ops Q [ol] (putAll a sl u) w) :
    (Code.region id ops true).wp P Q a w0 := by
  have key : ∀ fuel (L : Array Bool) (u : Nat → Value) (g : Nat → Nat × Nat) (w : World), Apart w0.heap.size w.heap.size (fun j => L.getD j false = true) g → L.size = ops.size → (L.toList.countP (fun b => !b) ≤ fuel) → L.getD last true = false → KeptOff (fun k => ∃ j, L.getD j false = true ∧ W j k) w0 w →
      (∀ j o, ops[j]? = some o → L.getD j false = true → ∀ k ∈ deps o, L.getD k false = true) → (∀ j, L.getD j false = true → R j (u j) (g j) u g w) →
      wpAny P .any ops Q fuel L (putAll a sl u) w := by
    intro fuel
    induction fuel with
    | zero =>
      intro L u g w hap hsz hcnt hl
      exfalso
      have hlt : last < L.size := by
        apply Nat.lt_of_not_le; intro hle
        simp [Array.getD, Nat.not_lt.2 hle] at hl
      have : L[last] = false := by simpa [Array.getD, hlt] using hl
      have hmem : false ∈ L.toList := by rw [← this]; simp
      have hpos : 0 < L.toList.countP (fun b => !b) := List.countP_pos_iff.2 ⟨false, hmem, rfl⟩
      omega
    | succ fuel ih =>
      intro L u g w hap hsz hcnt hl hb hC hR
      have hready : ∀ i ∈ Region.ready .any ops L, wpOp P ops Q i (wpAny P .any ops Q fuel (L.setIfInBounds i true)) (putAll a sl u) w := by
        intro i hi
        obtain ⟨o, ho, hli, hd⟩ := ready_deps hi
        have hilt : i < L.size := by rw [hsz]; exact (Array.getElem?_eq_some_iff.1 ho).1
        have hget : ∀ j, (L.setIfInBounds i true).getD j false = if j = i then true else L.getD j false := by
          intro j
          simp only [Array.getD_eq_getD_getElem?, Array.getElem?_setIfInBounds]
          by_cases e : i = j
          · subst e; simp [hilt]
          · rw [if_neg e, if_neg (fun e' => e e'.symm)]
        have hcnt' : (L.setIfInBounds i true).toList.countP (fun b => !b) ≤ fuel := by
          have h1 : L[i] = false := by simpa [Array.getD, hilt] using hli
          rw [Array.toList_setIfInBounds]
          have hli' : i < L.toList.length := by simpa using hilt
          rw [List.set_eq_take_append_cons_drop, if_pos hli', List.countP_append, List.countP_cons]
          have h2 : L.toList = L.toList.take i ++ L.toList[i] :: L.toList.drop (i + 1) := by
            rw [← List.drop_eq_getElem_cons hli', List.take_append_drop]
          rw [h2, List.countP_append, List.countP_cons] at hcnt
          simp only [Array.getElem_toList, h1, Bool.not_false, if_true, Bool.not_true, Bool.false_eq_true, if_false] at hcnt ⊢
          omega
        by_cases hil : i = last
        · subst hil
          -- all others are listed
          rw [ho] at hol
          obtain rfl := Option.some.inj hol
          have hall : ∀ j, j < ops.size → j ≠ i → L.getD j false = true := by
            intro j hj hne
            simp only [lastB, List.all_eq_true, List.mem_range] at hlast
            have := hlast j hj
            simp only [Bool.or_eq_true, beq_iff_eq, hne, false_or, List.contains_iff_mem, ho, Option.elim_some] at this
            exact reach_listed hC _ _ hd j this
          have hnone : Region.ready .any ops (L.setIfInBounds i true) = [] := by
            rw [List.eq_nil_iff_forall_not_mem]
            intro j hj
            obtain ⟨o', ho', hlj, -⟩ := ready_deps hj
            have hjl := (Array.getElem?_eq_some_iff.1 ho').1
            have : (L.setIfInBounds i true).getD j false = true := by
              rw [hget]; split
              · rfl
              · next e => exact hall j hjl e
            simp only [Array.getD, Array.size_setIfInBounds, hsz, hjl, dif_pos] at this hlj
            rw [this] at hlj; cases hlj
          have hfin : ∀ a' w', Q .normal a' w' → wpAny P .any ops Q fuel (L.setIfInBounds i true) a' w' := by
            intro a' w' hq
            cases fuel with
            | zero => exact ⟨hnone, hq⟩
            | succ f => exact ⟨fun _ => hq, fun j hj => by rw [hnone] at hj; cases hj⟩
          have h := hend u g w (hb.mono fun k ⟨j, hj, hw⟩ => ⟨j, (fun e => by subst e; simp only [Array.getD, hilt, dif_pos] at hli hj; rw [hj] at hli; cases hli), hw⟩) (fun j hj hne => hR j (hall j hj hne)) (hap.sub fun j hj => hall j hj.1 hj.2)
          unfold wpOp
          rw [ho]
          simp only [wpList] at h
          simp only
          split at h
          · next hw => rw [if_pos hw]; exact h.imp (Oper.wp_mono fun a' w' hq => hfin a' w' hq) (fun x => x)
          · next hw => rw [if_neg hw]; exact hfin _ _ h
        · have h := hstep i o ho hil u g w (hb.mono fun k ⟨j, hj, hw⟩ => ⟨j, (fun e => by subst e; simp only [Array.getD, hilt, dif_pos] at hli hj; rw [hj] at hli; cases hli), (fun e => by
              unfold depsAt at e
              cases hoj : ops[j]? with
              | none => rw [hoj] at e; cases e
              | some oj =>
                rw [hoj] at e
                have hci := hC j oj hoj hj i e
                simp only [Array.getD, hilt, dif_pos] at hli hci
                rw [hci] at hli; cases hli), hw⟩) (fun j hj => hR j (hd j hj)) (hap.sub fun j hj => hd j hj)
          have hnext : ∀ a' w', Stood3 W a sl R u g i o w Q .normal a' w' → wpAny P .any ops Q fuel (L.setIfInBounds i true) a' w' := by
            intro a' w' hq
            obtain ⟨v, rfl, hbw, hv⟩ := hq
            rw [putAll_put hs ho]
            refine ih _ _ (updI g i (w.heap.size, w'.heap.size)) _ ((hap.add i hb.size hbw.size).sub fun j hj => by rw [hget] at hj; by_cases e : j = i; exact .inl e; rw [if_neg e] at hj; exact .inr hj) (by simpa using hsz) hcnt' ?_ ((hb.mono fun k ⟨j, hj, hw⟩ => ⟨j, by rw [hget]; split <;> first | rfl | exact hj, hw⟩).trans (hbw.mono fun k hk => ⟨i, by rw [hget, if_pos rfl], hk⟩)) ?_ ?_
            · simp only [Array.getD_eq_getD_getElem?, Array.getElem?_setIfInBounds, if_neg hil] at hl ⊢
              exact hl
            · intro j oj hoj hlj k hk
              rw [hget] at hlj ⊢
              split
              · rfl
              · next e =>
                by_cases ej : j = i
                · subst ej
                  rw [ho] at hoj
                  obtain rfl := Option.some.inj hoj
                  exact hd k hk
                · rw [if_neg ej] at hlj
                  exact hC j oj hoj hlj k hk
            · intro j hlj
              rw [hget] at hlj
              have hnd : ∀ k, L.getD k false = true → u k = upd u i v k ∧ g k = updI g i (w.heap.size, w'.heap.size) k := by
                intro k hk
                have e : k ≠ i := by
                  intro e; subst e
                  simp only [Array.getD, hilt, dif_pos] at hli hk
                  rw [hk] at hli; cases hli
                simp [upd, updI, e]
              by_cases ej : j = i
              · subst ej
                have hv' := hstab j v _ u (upd u j v) g (updI g j (w.heap.size, w'.heap.size)) w' (fun k hk => hnd k (hd k (by unfold depsAt at hk; rw [ho] at hk; exact hk))) hv
                simpa [upd, updI] using hv'
              · rw [if_neg ej] at hlj
                have hj := hmono j i _ _ _ _ _ _ (fun e => ej e.symm) (hR j hlj) hbw
                have hj' := hstab j _ _ u (upd u i v) g (updI g i (w.heap.size, w'.heap.size)) w' (fun k hk => hnd k (by
                  unfold depsAt at hk
                  cases hoj : ops[j]? with
                  | none => rw [hoj] at hk; cases hk
                  | some oj => rw [hoj] at hk; exact hC j oj hoj hlj k hk)) hj
                simpa [upd, updI, ej] using hj'
          unfold wpOp
          rw [ho]
          simp only [wpList] at h
          simp only
          split at h
          · next hw =>
            rw [if_pos hw]
            refine h.imp (wp_swap hnext (fun _ _ _ h => h) fun ⟨x, y, h⟩ => ⟨x, y, h⟩) fun ⟨h1, h2⟩ => ⟨h1, ?_⟩
            obtain ⟨x, y, h2⟩ := h2
            exact ⟨x, y, h2⟩
          · next hw => rw [if_neg hw]; exact hnext _ _ h
      exact ⟨fun hnil => absurd hnil (ready_some hord hsz hl), hready⟩
  refine wp_region_any hm ?_
  have hlt : last < ops.size := (Array.getElem?_eq_some_iff.1 hol).1
  have hno : ∀ j, (Array.replicate ops.size false).getD j false = false := by
    intro j
    simp only [Array.getD_eq_getD_getElem?, Array.getElem?_replicate]
    split <;> rfl
  rw [putAll_self hs a]
  refine key _ _ _ (fun _ => (w0.heap.size, w0.heap.size)) _ ⟨fun j h => (by rw [hno] at h; cases h), fun i j h => (by rw [hno] at h; cases h)⟩ (by simp) ?_ ?_ ⟨rfl, rfl, rfl, Nat.le_refl _, fun _ _ _ => rfl⟩ (fun j o _ h => by rw [hno] at h; cases h) (fun j h => by rw [hno] at h; cases h)
  · refine Nat.le_trans (List.countP_le_length) ?_
    simp
  · simp [Array.getD, hlt]


/-- all but l1 and l2 are reached from l1, and l2 waits for l1 -/
def tailB (ops : Array Oper) (l1 l2 : Nat) : Bool :=
  (l1 != l2 && ((ops[l2]?).elim [] deps).contains l1) && (List.range ops.size).all fun j => (j == l1 || j == l2) || (reach ops ops.size ((ops[l1]?).elim [] deps)).contains j

theorem wp_region_tail {P : Program} {ops : Array Oper} {Q : Exit → Act → World → Prop} {a : Act} {w0 : World} {id : Nat} (hm : P.follows .mixedOrders = true)
    (sl : List (Option Nat)) (l1 l2 : Nat) (hs : slotsB ops sl = true) (hlast : tailB ops l1 l2 = true) (hord : orderB ops = true) (o1 o2 : Oper) (ho1 : ops[l1]? = some o1) (ho2 : ops[l2]? = some o2) (d2 : Nat) (hd2 : o2.dst = some d2)
    (R : Nat → Value → Nat × Nat → (Nat → Value) → (Nat → Nat × Nat) → World → Prop) (hmono : ∀ i v x u g w w', R i v x u g w → Below w.heap.size w w' → R i v x u g w')
    (hstab : ∀ i v x u u' g g' w, (∀ j ∈ depsAt ops i, u j = u' j ∧ g j = g' j) → R i v x u g w → R i v x u' g' w)
    (hstep : ∀ i o, ops[i]? = some o → i ≠ l1 → i ≠ l2 → ∀ u g w, Below w0.heap.size w0 w → u l2 = a.tmps.getD d2 undef → (∀ j ∈ deps o, R j (u j) (g j) u g w) → wpList P ops (Stood3 (fun _ _ => False) a sl R u g i o w Q) [o] (putAll a sl u) w)
    (hend : ∀ u g w, Below w0.heap.size w0 w → u l2 = a.tmps.getD d2 undef → (∀ j, j < ops.size → j ≠ l1 → j ≠ l2 → R j (u j) (g j) u g w) → Apart w0.heap.size w.heap.size (fun j => j < ops.size ∧ j ≠ l1 ∧ j ≠ l2) g → wpList P ops Q [o1, o2] (putAll a sl u) w) :
    (Code.region id ops true).wp P Q a w0 := by
  have key : ∀ fuel (L : Array Bool) (u : Nat → Value) (g : Nat → Nat × Nat) (w : World), Apart w0.heap.size w.heap.size (fun j => L.getD j false = true) g → L.size = ops.size → (L.toList.countP (fun b => !b) ≤ fuel) → L.getD l1 true = false → L.getD l2 true = false → Below w0.heap.size w0 w → u l2 = a.tmps.getD d2 undef →
      (∀ j o, ops[j]? = some o → L.getD j false = true → ∀ k ∈ deps o, L.getD k false = true) → (∀ j, L.getD j false = true → R j (u j) (g j) u g w) →
      wpAny P .any ops Q fuel L (putAll a sl u) w := by
    intro fuel
    induction fuel with
    | zero =>
      intro L u g w hap hsz hcnt hl hl2
      exfalso
      have hlt : l1 < L.size := by
        apply Nat.lt_of_not_le; intro hle
        simp [Array.getD, Nat.not_lt.2 hle] at hl
      have : L[l1] = false := by simpa [Array.getD, hlt] using hl
      have hmem : false ∈ L.toList := by rw [← this]; simp
      have hpos : 0 < L.toList.countP (fun b => !b) := List.countP_pos_iff.2 ⟨false, hmem, rfl⟩
      omega
    | succ fuel ih =>
      intro L u g w hap hsz hcnt hl hl2 hb hu2 hC hR
      have hready : ∀ i ∈ Region.ready .any ops L, wpOp P ops Q i (wpAny P .any ops Q fuel (L.setIfInBounds i true)) (putAll a sl u) w := by
        intro i hi
        obtain ⟨o, ho, hli, hd⟩ := ready_deps hi
        have hilt : i < L.size := by rw [hsz]; exact (Array.getElem?_eq_some_iff.1 ho).1
        have hget : ∀ j, (L.setIfInBounds i true).getD j false = if j = i then true else L.getD j false := by
          intro j
          simp only [Array.getD_eq_getD_getElem?, Array.getElem?_setIfInBounds]
          by_cases e : i = j
          · subst e; simp [hilt]
          · rw [if_neg e, if_neg (fun e' => e e'.symm)]
        have hcnt' : (L.setIfInBounds i true).toList.countP (fun b => !b) ≤ fuel := by
          have h1 : L[i] = false := by simpa [Array.getD, hilt] using hli
          rw [Array.toList_setIfInBounds]
          have hli' : i < L.toList.length := by simpa using hilt
          rw [List.set_eq_take_append_cons_drop, if_pos hli', List.countP_append, List.countP_cons]
          have h2 : L.toList = L.toList.take i ++ L.toList[i] :: L.toList.drop (i + 1) := by
            rw [← List.drop_eq_getElem_cons hli', List.take_append_drop]
          rw [h2, List.countP_append, List.countP_cons] at hcnt
          simp only [Array.getElem_toList, h1, Bool.not_false, if_true, Bool.not_true, Bool.false_eq_true, if_false] at hcnt ⊢
          omega
        by_cases hil : i = l1
        · subst hil
          -- all others are listed
          rw [ho] at ho1
          obtain rfl := Option.some.inj ho1
          have hall : ∀ j, j < ops.size → j ≠ i → j ≠ l2 → L.getD j false = true := by
            intro j hj hne hne2
            simp only [tailB, Bool.and_eq_true, List.all_eq_true, List.mem_range] at hlast
            have := hlast.2 j hj
            simp only [Bool.or_eq_true, beq_iff_eq, hne, hne2, false_or, List.contains_iff_mem, ho, Option.elim_some] at this
            exact reach_listed hC _ _ hd j this
          have h12 : i ≠ l2 := by
            intro e
            simp only [tailB, Bool.and_eq_true, bne_iff_ne] at hlast
            exact hlast.1.1 e
          have hl2lt := (Array.getElem?_eq_some_iff.1 ho2).1
          have hg2 : ∀ j, ((L.setIfInBounds i true).setIfInBounds l2 true).getD j false = if j = l2 then true else if j = i then true else L.getD j false := by
            intro j
            by_cases e : l2 = j
            · subst e; simp [Array.getD_eq_getD_getElem?, hsz, hl2lt]
            · rw [if_neg (fun e' => e e'.symm), ← hget j]
              simp only [Array.getD_eq_getD_getElem?, Array.getElem?_setIfInBounds, if_neg e]
          have hnone : Region.ready .any ops ((L.setIfInBounds i true).setIfInBounds l2 true) = [] := by
            rw [List.eq_nil_iff_forall_not_mem]
            intro j hj
            obtain ⟨o', ho', hlj, -⟩ := ready_deps hj
            have hjl := (Array.getElem?_eq_some_iff.1 ho').1
            have : ((L.setIfInBounds i true).setIfInBounds l2 true).getD j false = true := by
              rw [hg2]; split
              · rfl
              · next e =>
                split
                · rfl
                · next e2 => exact hall j hjl e2 e
            simp only [Array.getD, Array.size_setIfInBounds, hsz, hjl, dif_pos] at this hlj
            rw [this] at hlj; cases hlj
          have hfin : ∀ f a' w', Q .normal a' w' → wpAny P .any ops Q f ((L.setIfInBounds i true).setIfInBounds l2 true) a' w' := by
            intro f a' w' hq
            cases f with
            | zero => exact ⟨hnone, hq⟩
            | succ f => exact ⟨fun _ => hq, fun j hj => by rw [hnone] at hj; cases hj⟩
          have hmid : ∀ a' w', wpList P ops Q [o2] a' w' → wpAny P .any ops Q fuel (L.setIfInBounds i true) a' w' := by
            intro a' w' h
            have hpos : 0 < (L.setIfInBounds i true).toList.countP (fun b => !b) := by
              refine List.countP_pos_iff.2 ⟨false, ?_, rfl⟩
              have e : (L.setIfInBounds i true)[l2]? = some false := by
                rw [Array.getElem?_setIfInBounds, if_neg h12, Array.getElem?_eq_getElem (by omega)]
                have : L[l2]'(by omega) = false := by simpa [Array.getD, show l2 < L.size by omega] using hl2
                rw [this]
              exact List.mem_of_getElem? (by rw [Array.getElem?_toList]; exact e)
            obtain ⟨f, rfl⟩ : ∃ f, fuel = f + 1 := ⟨fuel - 1, by omega⟩
            refine ⟨fun hnil => absurd hnil (ready_some (last := l2) hord (by simpa using hsz) ?_), fun j hj => ?_⟩
            · simp only [Array.getD_eq_getD_getElem?, Array.getElem?_setIfInBounds, if_neg h12] at hl2 ⊢
              exact hl2
            · obtain ⟨o', ho', hlj, -⟩ := ready_deps hj
              have hjl := (Array.getElem?_eq_some_iff.1 ho').1
              have hj2 : j = l2 := by
                refine Classical.byContradiction fun e => ?_
                have : (L.setIfInBounds i true).getD j false = true := by
                  rw [hget]; split
                  · rfl
                  · next e2 => exact hall j hjl e2 e
                simp only [Array.getD, Array.size_setIfInBounds, hsz, hjl, dif_pos] at this hlj
                rw [this] at hlj; cases hlj
              subst hj2
              unfold wpOp
              rw [ho2]
              simp only [wpList] at h
              simp only
              split at h
              · next hw => rw [if_pos hw]; exact h.imp (Oper.wp_mono fun a' w' hq => hfin _ a' w' hq) (fun x => x)
              · next hw => rw [if_neg hw]; exact hfin _ _ _ h
          have h := hend u g w hb hu2 (fun j hj hne hne2 => hR j (hall j hj hne hne2)) (hap.sub fun j hj => hall j hj.1 hj.2.1 hj.2.2)
          unfold wpOp
          rw [ho]
          rw [wpList] at h
          simp only
          split at h
          · next hw => rw [if_pos hw]; exact h.imp (Oper.wp_mono fun a' w' hq => hmid a' w' hq) (fun x => x)
          · next hw => rw [if_neg hw]; exact hmid _ _ h
        · have hil2 : i ≠ l2 := by
            intro e
            subst e
            rw [ho] at ho2
            obtain rfl := Option.some.inj ho2
            simp only [tailB, Bool.and_eq_true, List.contains_iff_mem, ho, Option.elim_some] at hlast
            have hh := hd l1 hlast.1.2
            have hlt : l1 < L.size := by have := (Array.getElem?_eq_some_iff.1 ho1).1; omega
            simp only [Array.getD, hlt, dif_pos] at hh hl
            rw [hh] at hl; cases hl
          have h := hstep i o ho hil hil2 u g w hb hu2 (fun j hj => hR j (hd j hj))
          have hnext : ∀ a' w', Stood3 (fun _ _ => False) a sl R u g i o w Q .normal a' w' → wpAny P .any ops Q fuel (L.setIfInBounds i true) a' w' := by
            intro a' w' hq
            obtain ⟨v, rfl, hbw', hv⟩ := hq
            have hbw : Below w.heap.size w w' := hbw'.below (fun _ h => h.elim) (Nat.le_refl _)
            rw [putAll_put hs ho]
            refine ih _ _ (updI g i (w.heap.size, w'.heap.size)) _ ((hap.add i hb.size hbw.size).sub fun j hj => by rw [hget] at hj; by_cases e : j = i; exact .inl e; rw [if_neg e] at hj; exact .inr hj) (by simpa using hsz) hcnt' ?_ ?_ (hb.trans (hbw.mono hb.size)) (by simp only [upd, if_neg (fun e : l2 = i => hil2 e.symm)]; exact hu2) ?_ ?_
            · simp only [Array.getD_eq_getD_getElem?, Array.getElem?_setIfInBounds, if_neg hil] at hl ⊢
              exact hl
            · simp only [Array.getD_eq_getD_getElem?, Array.getElem?_setIfInBounds, if_neg hil2] at hl2 ⊢
              exact hl2
            · intro j oj hoj hlj k hk
              rw [hget] at hlj ⊢
              split
              · rfl
              · next e =>
                by_cases ej : j = i
                · subst ej
                  rw [ho] at hoj
                  obtain rfl := Option.some.inj hoj
                  exact hd k hk
                · rw [if_neg ej] at hlj
                  exact hC j oj hoj hlj k hk
            · intro j hlj
              rw [hget] at hlj
              have hnd : ∀ k, L.getD k false = true → u k = upd u i v k ∧ g k = updI g i (w.heap.size, w'.heap.size) k := by
                intro k hk
                have e : k ≠ i := by
                  intro e; subst e
                  simp only [Array.getD, hilt, dif_pos] at hli hk
                  rw [hk] at hli; cases hli
                simp [upd, updI, e]
              by_cases ej : j = i
              · subst ej
                have hv' := hstab j v _ u (upd u j v) g (updI g j (w.heap.size, w'.heap.size)) w' (fun k hk => hnd k (hd k (by unfold depsAt at hk; rw [ho] at hk; exact hk))) hv
                simpa [upd, updI] using hv'
              · rw [if_neg ej] at hlj
                have hj := hmono j _ _ _ _ _ _ (hR j hlj) hbw
                have hj' := hstab j _ _ u (upd u i v) g (updI g i (w.heap.size, w'.heap.size)) w' (fun k hk => hnd k (by
                  unfold depsAt at hk
                  cases hoj : ops[j]? with
                  | none => rw [hoj] at hk; cases hk
                  | some oj => rw [hoj] at hk; exact hC j oj hoj hlj k hk)) hj
                simpa [upd, updI, ej] using hj'
          unfold wpOp
          rw [ho]
          simp only [wpList] at h
          simp only
          split at h
          · next hw =>
            rw [if_pos hw]
            refine h.imp (wp_swap hnext (fun _ _ _ h => h) fun ⟨x, y, h⟩ => ⟨x, y, h⟩) fun ⟨h1, h2⟩ => ⟨h1, ?_⟩
            obtain ⟨x, y, h2⟩ := h2
            exact ⟨x, y, h2⟩
          · next hw => rw [if_neg hw]; exact hnext _ _ h
      exact ⟨fun hnil => absurd hnil (ready_some (last := l1) hord hsz hl), hready⟩
  refine wp_region_any hm ?_
  have hlt : l1 < ops.size := (Array.getElem?_eq_some_iff.1 ho1).1
  have hlt2 : l2 < ops.size := (Array.getElem?_eq_some_iff.1 ho2).1
  have hno : ∀ j, (Array.replicate ops.size false).getD j false = false := by
    intro j
    simp only [Array.getD_eq_getD_getElem?, Array.getElem?_replicate]
    split <;> rfl
  rw [putAll_self hs a]
  refine key _ _ _ (fun _ => (w0.heap.size, w0.heap.size)) _ ⟨fun j h => (by rw [hno] at h; cases h), fun i j h => (by rw [hno] at h; cases h)⟩ (by simp) ?_ ?_ ?_ ⟨rfl, rfl, rfl, Nat.le_refl _, fun _ _ => rfl⟩ (by simp only [ho2, Option.bind_some, hd2]) (fun j o _ h => by rw [hno] at h; cases h) (fun j h => by rw [hno] at h; cases h)
  · refine Nat.le_trans (List.countP_le_length) ?_
    simp
  · simp [Array.getD, hlt]
  · simp [Array.getD, hlt2]

end Go.Proofs.Ytikfddppjalfdaa
