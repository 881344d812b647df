/- A region that draws its order and ends in a row of operations that wait for all before them, over laws of the worlds and of the values; conditions: none. -/
import Derived.Test.YtpieaeokbblflaaFree
import Derived.Test.YtpieaeokbblflaaRk
import Derived.BigQuiet
import Derived.Test.YtpieaeokbblflaaAppG
import Derived.Test.YtpieaeokbblflaaTalk
import Derived.Deep.Cut
import Derived.Deep.CutRange
import Derived.Test.YtpieaeokbblflaaNeedT
import Derived.Test.YtpieaeokbblflaaOwn
import Derived.Test.YtpieaeokbblflaaPairsC
import Derived.ChangeKeysEq
namespace Go.Proofs.Ytpieaeokbblflaa
open Go.RowKit

/-- the operations from t on wait for all before them -/
def tailsB (ops : Array Oper) (t : Nat) : Bool := (List.range ops.size).all fun i => decide (i < t) || (List.range i).all fun j => (reach ops ops.size ((ops[i]?).elim [] deps)).contains j
theorem tails_of {ops : Array Oper} {t i j : Nat} {o : Oper} (h : tailsB ops t = true) (hi : t ≤ i) (ho : ops[i]? = some o) (hj : j < i) : j ∈ reach ops ops.size (deps o) := by
  simp only [tailsB, List.all_eq_true, List.mem_range, Bool.or_eq_true, decide_eq_true_eq] at h
  have := (h i (Array.getElem?_eq_some_iff.1 ho).1).resolve_left (by omega) j hj
  rw [ho] at this
  simpa using this
theorem order_of {ops : Array Oper} {i k : Nat} {o : Oper} (hord : orderB ops = true) (ho : ops[i]? = some o) (hk : k ∈ deps o) : k < i := by
  simp only [orderB, List.all_eq_true, List.mem_range] at hord
  have := hord i (Array.getElem?_eq_some_iff.1 ho).1 k (by rw [ho]; exact hk)
  simpa using this

theorem wpAny_tail {P : Program} {ops : Array Oper} {Q : Exit → Act → World → Prop} {t : Nat} (htl : tailsB ops t = true) (hord : orderB ops = true) :
    ∀ m k fuel (L : Array Bool) (a : Act) (w : World), k + m = ops.size → t ≤ k → L.size = ops.size → (∀ j, j < k → L.getD j false = true) → (∀ j, k ≤ j → L.getD j false = false) → m ≤ fuel →
      wpList P ops Q (ops.toList.drop k) a w → wpAny P .any ops Q fuel L a w := by
  intro m
  induction m with
  | zero =>
    intro k fuel L a w hk ht hsz hl hn hf h
    have hnone : Region.ready .any ops L = [] := by
      rw [List.eq_nil_iff_forall_not_mem]
      intro j hj
      obtain ⟨o', ho', hlj, -⟩ := ready_deps hj
      have hjl := (Array.getElem?_eq_some_iff.1 ho').1
      have := hl j (by omega)
      simp only [Array.getD, hsz, hjl, dif_pos] at this hlj
      rw [this] at hlj; cases hlj
    have hd : ops.toList.drop k = [] := List.drop_eq_nil_of_le (by simp; omega)
    rw [hd] at h
    cases fuel with
    | zero => exact ⟨hnone, h⟩
    | succ f => exact ⟨fun _ => h, fun j hj => by rw [hnone] at hj; cases hj⟩
  | succ m ih =>
    intro k fuel L a w hk ht hsz hl hn hf h
    obtain ⟨f, rfl⟩ : ∃ f, fuel = f + 1 := ⟨fuel - 1, by omega⟩
    have hkl : k < ops.size := by omega
    have hk2 : k < ops.toList.length := by simpa using hkl
    rw [List.drop_eq_getElem_cons hk2] at h
    have hlk : L.getD k true = false := by
      have := hn k (Nat.le_refl _)
      simpa [Array.getD, hsz, hkl] using this
    refine ⟨fun hnil => absurd hnil (ready_some hord hsz hlk), fun i hi => ?_⟩
    obtain ⟨o, ho, hli, hd⟩ := ready_deps hi
    have hil := (Array.getElem?_eq_some_iff.1 ho).1
    have hli' : L.getD i false = false := by simpa [Array.getD, hsz, hil] using hli
    have hC : ∀ j oj, ops[j]? = some oj → L.getD j false = true → ∀ q ∈ deps oj, L.getD q false = true := by
      intro j oj hj hlj q hq
      have h1 := order_of hord hj hq
      have h2 : j < k := by
        apply Nat.lt_of_not_le; intro hle
        rw [hn j hle] at hlj; cases hlj
      exact hl q (by omega)
    have hik : i = k := by
      have h1 : ¬ i < k := fun hlt => by rw [hl i hlt] at hli'; cases hli'
      have h2 : ¬ k < i := fun hlt => by
        have := reach_listed hC _ _ hd k (tails_of htl (by omega) ho hlt)
        rw [hn k (Nat.le_refl _)] at this; cases this
      omega
    subst hik
    have hok : ops.toList[i] = o := by
      rw [Array.getElem?_eq_getElem hil] at ho
      simpa using Option.some.inj ho
    rw [hok] at h
    have hnext : ∀ a' w', wpList P ops Q (ops.toList.drop (i + 1)) a' w' → wpAny P .any ops Q f (L.setIfInBounds i true) a' w' := by
      intro a' w' h'
      refine ih (i + 1) f _ a' w' (by omega) (by omega) (by simpa using hsz) ?_ ?_ (by omega) h'
      · intro j hj
        simp only [Array.getD_eq_getD_getElem?, Array.getElem?_setIfInBounds]
        by_cases e : i = j
        · subst e; simp [hsz, hil]
        · rw [if_neg e]
          have := hl j (by omega)
          simpa only [Array.getD_eq_getD_getElem?] using this
      · intro j hj
        simp only [Array.getD_eq_getD_getElem?, Array.getElem?_setIfInBounds]
        rw [if_neg (by omega)]
        have := hn j (by omega)
        simpa only [Array.getD_eq_getD_getElem?] using this
    unfold wpOp
    rw [ho]
    simp only [wpList] at h
    simp only
    split at h
    · next hw => rw [if_pos hw]; exact h.imp (Oper.wp_mono hnext) id
    · next hw => rw [if_neg hw]; exact hnext _ _ h

/-- the operation has left a value; the laws hold -/
def StoodA (I : Nat → World → Prop) (S : World → World → Prop) (R : Nat → Value → World → Prop) (a : Act) (sl : List (Option Nat)) (u : Nat → Value) (n i : Nat) (o : Oper) (w : World) (Q : Exit → Act → World → Prop) : Exit → Act → World → Prop
  | .normal, a', w' => ∃ v, a' = (putAll a sl u).put o.dst v ∧ I (n + 1) w' ∧ S w w' ∧ R i v w'
  | e, a', w' => Q e a' w'

theorem wp_region_acc {P : Program} {ops : Array Oper} {Q : Exit → Act → World → Prop} {a : Act} {w0 : World} {id : Nat} (hm : P.follows .mixedOrders = true)
    (sl : List (Option Nat)) (t : Nat) (hs : slotsB ops sl = true) (hord : orderB ops = true) (htl : tailsB ops t = true) (ht : t ≤ ops.size)
    (I : Nat → World → Prop) (S : World → World → Prop) (R : Nat → Value → World → Prop) (hmono : ∀ i v w w', R i v w → S w w' → R i v w')
    (h0 : I 0 w0.drew)
    (hstep : ∀ i o, ops[i]? = some o → i < t → ∀ n u w, n < t → I n w → (∀ j ∈ deps o, R j (u j) w) → wpList P ops (StoodA I S R a sl u n i o w Q) [o] (putAll a sl u) w)
    (hend : ∀ u w, I t w → (∀ j, j < t → R j (u j) w) → wpList P ops Q (ops.toList.drop t) (putAll a sl u) w) :
    (Code.region id ops true).wp P Q a w0 := by
  have key : ∀ fuel (L : Array Bool) (n : Nat) (u : Nat → Value) (w : World), L.size = ops.size → ((L.toList.take t).countP (fun b => !b) + n = t) → t - n + (ops.size - t) ≤ fuel → (∀ j, t ≤ j → L.getD j false = false) → I n w →
      (∀ j o, ops[j]? = some o → L.getD j false = true → ∀ k ∈ deps o, L.getD k false = true) → (∀ j, L.getD j false = true → R j (u j) w) →
      wpAny P .any ops Q fuel L (putAll a sl u) w := by
    intro fuel
    induction fuel with
    | zero =>
      intro L n u w hsz hcnt hf hn hI hC hR
      have hnt : n = t := by omega
      subst hnt
      have hall : ∀ j, j < n → L.getD j false = true := by
        intro j hj
        have hj' : j < L.size := by omega
        cases hLj : L[j] with
        | true => simp [Array.getD, hj', hLj]
        | false =>
          have hmem : false ∈ L.toList.take n := by
            rw [List.mem_take_iff_getElem]
            exact ⟨j, by simp; omega, by simpa using hLj⟩
          have hpos : 0 < (L.toList.take n).countP (fun b => !b) := List.countP_pos_iff.2 ⟨false, hmem, rfl⟩
          omega
      exact wpAny_tail htl hord (ops.size - n) n 0 L _ w (by omega) (Nat.le_refl _) hsz hall hn (by omega) (hend u w hI fun j hj => hR j (hall j hj))
    | succ fuel ih =>
      intro L n u w hsz hcnt hf hn hI hC hR
      by_cases hall : ∀ j, j < t → L.getD j false = true
      · have hz : (L.toList.take t).countP (fun b => !b) = 0 := by
          rw [List.countP_eq_zero]
          intro b hb
          rw [List.mem_take_iff_getElem] at hb
          obtain ⟨j, hj, rfl⟩ := hb
          have hj2 : j < t := by omega
          have hj3 : j < L.size := by omega
          have := hall j hj2
          simp only [Array.getD, hj3, dif_pos] at this
          simp
          exact this
        have hnt : n = t := by omega
        subst hnt
        exact wpAny_tail htl hord (ops.size - n) n (fuel + 1) L _ w (by omega) (Nat.le_refl _) hsz hall hn (by omega) (hend u w hI fun j hj => hR j (hall j hj))
      · have hex : ∃ j, j < t ∧ L.getD j false = false := by
          apply Classical.byContradiction
          intro hno
          apply hall
          intro j hj
          cases hb : L.getD j false
          · exact absurd ⟨j, hj, hb⟩ hno
          · rfl
        obtain ⟨j0, hj0, hl0⟩ := hex
        have hj0s : j0 < ops.size := by omega
        have hl0' : L.getD j0 true = false := by simpa [Array.getD, hsz, hj0s] using hl0
        refine ⟨fun hnil => absurd hnil (ready_some hord hsz hl0'), fun i hi => ?_⟩
        obtain ⟨o, ho, hli, hd⟩ := ready_deps hi
        have hio := (Array.getElem?_eq_some_iff.1 ho).1
        have hilt : i < L.size := by omega
        have hli' : L.getD i false = false := by simpa [Array.getD, hilt] using hli
        have hit : i < t := by
          apply Nat.lt_of_not_le; intro hle
          have := reach_listed hC _ _ hd j0 (tails_of htl hle ho (by omega))
          rw [hl0] at this; cases this
        have hget : ∀ j, (L.setIfInBounds i true).getD j false = if j = i then true else L.getD j false := by
          intro j
          simp only [Array.getD_eq_getD_getElem?, Array.getElem?_setIfInBounds]
          by_cases e : i = j
          · subst e; simp [hilt]
          · rw [if_neg e, if_neg (fun e' => e e'.symm)]
        have hpos : 0 < (L.toList.take t).countP (fun b => !b) := by
          refine List.countP_pos_iff.2 ⟨false, ?_, rfl⟩
          rw [List.mem_take_iff_getElem]
          exact ⟨i, by simp; omega, by simpa [Array.getD, hilt] using hli⟩
        have hcnt' : ((L.setIfInBounds i true).toList.take t).countP (fun b => !b) + (n + 1) = t := by
          have h1 : L[i] = false := by simpa [Array.getD, hilt] using hli
          rw [Array.toList_setIfInBounds]
          have hli2 : i < L.toList.length := by simpa using hilt
          have hlt2 : i < (L.toList.take t).length := by simp; omega
          rw [List.take_set, List.set_eq_take_append_cons_drop, if_pos hlt2, List.countP_append, List.countP_cons]
          have h2 : L.toList.take t = (L.toList.take t).take i ++ (L.toList.take t)[i] :: (L.toList.take t).drop (i + 1) := by
            rw [← List.drop_eq_getElem_cons hlt2, List.take_append_drop]
          rw [h2, List.countP_append, List.countP_cons] at hcnt
          simp only [List.getElem_take, Array.getElem_toList, h1, Bool.not_false, if_true, Bool.not_true, Bool.false_eq_true, if_false] at hcnt ⊢
          omega
        have h := hstep i o ho hit n u w (by omega) hI fun j hj => hR j (hd j hj)
        have hnext : ∀ a' w', StoodA I S R a sl u n i o w Q .normal a' w' → wpAny P .any ops Q fuel (L.setIfInBounds i true) a' w' := by
          intro a' w' hq
          obtain ⟨v, rfl, hI', hS, hv⟩ := hq
          rw [putAll_put hs ho]
          refine ih _ (n + 1) _ _ (by simpa using hsz) hcnt' (by omega) ?_ hI' ?_ ?_
          · intro j hj
            rw [hget, if_neg (by omega)]
            exact hn j hj
          · intro j oj hoj hlj k hk
            rw [hget] at hlj ⊢
            split
            · rfl
            · next e =>
              by_cases ej : j = i
              · subst ej
                rw [ho] at hoj
                obtain rfl := Option.some.inj hoj
                exact hd k hk
              · rw [if_neg ej] at hlj
                exact hC j oj hoj hlj k hk
          · intro j hlj
            rw [hget] at hlj
            by_cases ej : j = i
            · subst ej; simpa [upd] using hv
            · rw [if_neg ej] at hlj
              simp only [upd, if_neg ej]
              exact hmono _ _ _ _ (hR j hlj) hS
        unfold wpOp
        rw [ho]
        simp only [wpList] at h
        simp only
        split at h
        · next hw =>
          rw [if_pos hw]
          refine h.imp (wp_swap hnext (fun _ _ _ h => h) fun ⟨x, y, h⟩ => ⟨x, y, h⟩) fun ⟨h1, h2⟩ => ⟨h1, ?_⟩
          obtain ⟨x, y, h2⟩ := h2
          exact ⟨x, y, h2⟩
        · next hw => rw [if_neg hw]; exact hnext _ _ h
  refine wp_region_any hm ?_
  have hno : ∀ j, (Array.replicate ops.size false).getD j false = false := by
    intro j
    simp only [Array.getD_eq_getD_getElem?, Array.getElem?_replicate]
    split <;> rfl
  rw [putAll_self hs a]
  refine key _ _ 0 _ _ (by simp) ?_ (by omega) (fun j _ => hno j) h0 (fun j o _ h => by rw [hno] at h; cases h) (fun j h => by rw [hno] at h; cases h)
  rw [Array.toList_replicate, List.take_replicate, List.countP_replicate]
  simp
  omega
end Go.Proofs.Ytpieaeokbblflaa
/- Numbers that are drawn from bytes; conditions: none. -/
namespace Go.Proofs.Ytpieaeokbblflaa
open Go.RowKit

/-- bytes in memory, without their values -/
def BytesR (w : World) (ad : Option Addr) (n : Nat) : Prop := n ≤ 9223372036854775807 ∧ ∀ i, i < n → ∃ b off x, ad = some ⟨b, off, none⟩ ∧ b < w.heap.size ∧ w.cell? ⟨b, off + i, none⟩ = some (.int .u8 x) ∧ 0 ≤ x ∧ x < 256
theorem BytesR.off {w w' : World} {ad : Option Addr} {n : Nat} {F : Nat → Prop} (h : BytesR w ad n) (hk : KeptOff F w w') (hF : 0 < n → ∀ b off, ad = some ⟨b, off, none⟩ → ¬ F b) : BytesR w' ad n := by
  refine ⟨h.1, fun i hi => ?_⟩
  obtain ⟨b, off, x, e, hb, hc, h0⟩ := h.2 i hi
  refine ⟨b, off, x, e, Nat.lt_of_lt_of_le hb hk.size, ?_, h0⟩
  rw [← hc]
  unfold World.cell?
  rw [hk.block b hb (hF (by omega) b off e)]
theorem BytesR.below {w w' : World} {ad : Option Addr} {n : Nat} (h : BytesR w ad n) (hb : Below w.heap.size w w') : BytesR w' ad n := h.off (kept0 hb) fun _ _ _ _ f => f
/-- a slice of bytes -/
def BytesV (w : World) (v : Value) (n : Nat) : Prop := ∃ ad cap, v = .slice ad n cap ∧ (n ≤ cap ∧ cap ≤ 9223372036854775807) ∧ BytesR w ad n
theorem BytesV.below {w w' : World} {v : Value} {n : Nat} (h : BytesV w v n) (hb : Below w.heap.size w w') : BytesV w' v n := by
  obtain ⟨ad, cap, rfl, hc, h⟩ := h
  exact ⟨ad, cap, rfl, hc, h.below hb⟩
theorem kept_later {F : Nat → Prop} {a b c : World} (h : KeptOff F a b) (k : Below b.heap.size b c) : KeptOff F a c := h.trans ((kept0 k).mono fun _ f => f.elim)
theorem keptOfB {B : Nat} {w w' : World} (h : Below B w w') (hs : w.heap.size ≤ w'.heap.size) : KeptOff (fun k => B ≤ k) w w' := ⟨h.os, h.tape, h.output, hs, fun k _ hf => h.block k (by omega)⟩
/-- a cursor: its block, the bytes that it reads (laid before it), a bound of its place -/
def CurR (w : World) (g K : Nat) : Prop := ∃ ad n cap k s, w.heap[g]? = some (.cells #[.slice ad n cap, .int .i64 ((k : Nat) : Int), .int .u64 s] 109 (0, 0)) ∧ k ≤ K ∧ 0 ≤ s ∧ BytesR w ad n ∧ (0 < n → ∀ b off, ad = some ⟨b, off, none⟩ → b < g)
theorem CurR.lt {w : World} {g K : Nat} (h : CurR w g K) : g < w.heap.size := by
  obtain ⟨_, _, _, _, _, h, -⟩ := h
  exact (Array.getElem?_eq_some_iff.1 h).1
theorem CurR.off {w w' : World} {g K : Nat} {F : Nat → Prop} (h : CurR w g K) (hk : KeptOff F w w') (hF : ∀ k, F k → g < k) : CurR w' g K := by
  obtain ⟨ad, n, cap, k, s, hb, h1, h2, h3, h4⟩ := h
  have hl := (Array.getElem?_eq_some_iff.1 hb).1
  exact ⟨ad, n, cap, k, s, (hk.block g hl (fun f => by have := hF g f; omega)).trans hb, h1, h2, h3.off hk (fun hn b off e f => by have := h4 hn b off e; have := hF b f; omega), h4⟩
theorem CurR.below {w w' : World} {g K : Nat} (h : CurR w g K) (hb : Below w.heap.size w w') : CurR w' g K := h.off (kept0 hb) fun _ f => f.elim
theorem CurR.more {w : World} {g K L : Nat} (h : CurR w g K) (hl : K ≤ L) : CurR w g L := by
  obtain ⟨ad, n, cap, k, s, hb, h1, h2⟩ := h
  exact ⟨ad, n, cap, k, s, hb, by omega, h2⟩
/-- a new cursor -/
theorem cur_new {w : World} {ad : Option Addr} {n cap : Nat} (h : BytesR w ad n) : CurR (w.alloc (.cells #[.slice ad n cap, .int .i64 0, .int .u64 0] 109)) w.heap.size 0 :=
  ⟨ad, n, cap, 0, 0, heap_alloc_at rfl, Nat.le_refl _, Int.le_refl _, h.below ((Below.refl _ _).alloc (Nat.le_refl _) _), fun hn b off e => by
    obtain ⟨b', off', x, e', hb, -⟩ := h.2 0 hn
    rw [e] at e'; cases e'; exact hb⟩
theorem blk3c {w : World} {b : Nat} {v1 v2 v3 : Value} {t : TypeId} (h : w.heap[b]? = some (.cells #[v1, v2, v3] t (0, 0))) :
    (w.cell? ⟨b, 0, none⟩ = some v1 ∧ w.cell? ⟨b, 1, none⟩ = some v2 ∧ w.cell? ⟨b, 2, none⟩ = some v3) ∧ (w.frozen? ⟨b, 0, none⟩ = false ∧ w.frozen? ⟨b, 1, none⟩ = false ∧ w.frozen? ⟨b, 2, none⟩ = false) := by
  refine ⟨⟨?_, ?_, ?_⟩, ?_, ?_, ?_⟩ <;> simp [World.cell?, World.frozen?, h]

theorem u64_nonneg (z : Int) : 0 ≤ IntKind.u64.wrap z := by
  show 0 ≤ z % _
  exact Int.emod_nonneg _ (by decide)
theorem u64_and255 (z : Int) : ∃ x : Nat, x < 256 ∧ bits .and .u64 z 255 = (x : Int) := by
  have h1 : bits .and .u64 z 255 = IntKind.u64.wrap ((BitVec.ofInt 64 z &&& BitVec.ofInt 64 255).toNat : Int) := rfl
  have h2 : (BitVec.ofInt 64 z &&& BitVec.ofInt 64 255).toNat < 256 := by
    rw [BitVec.toNat_and]
    exact Nat.and_lt_two_pow (n := 8) _ (by decide)
  refine ⟨_, h2, ?_⟩
  rw [h1]
  have : ∀ y : Nat, y < 256 → IntKind.u64.wrap (y : Int) = (y : Int) := by decide +kernel
  exact this _ h2
/-- the cursor behind a step -/
theorem cur_stepped {w : World} {g K k n cap : Nat} {ad : Option Addr} {s s2 : Int} (hb : w.heap[g]? = some (.cells #[.slice ad n cap, .int .i64 ((k : Nat) : Int), .int .u64 s] 109 (0, 0))) (hk : k ≤ K) (hr : BytesR w ad n) (hne : 0 < n → ∀ b off, ad = some ⟨b, off, none⟩ → b < g) (hs : 0 ≤ s2) (m : Nat) :
    (((w.drewN m).setCell ⟨g, 1, none⟩ (.int .i64 ((k : Int) + 1))).setCell ⟨g, 2, none⟩ (.int .u64 s2)).heap[g]? = some (.cells #[.slice ad n cap, .int .i64 ((k : Int) + 1), .int .u64 s2] 109 (0, 0)) ∧
    KeptOff (fun k => k = g) w (((w.drewN m).setCell ⟨g, 1, none⟩ (.int .i64 ((k : Int) + 1))).setCell ⟨g, 2, none⟩ (.int .u64 s2)) ∧ CurR (((w.drewN m).setCell ⟨g, 1, none⟩ (.int .i64 ((k : Int) + 1))).setCell ⟨g, 2, none⟩ (.int .u64 s2)) g (K + 1) := by
  have h0 : (w.drewN m).heap[g]? = some (.cells #[.slice ad n cap, .int .i64 ((k : Nat) : Int), .int .u64 s] 109 (0, 0)) := blk_later (below_drewN (Below.refl w.heap.size w) m) hb
  have h2 : (((w.drewN m).setCell ⟨g, 1, none⟩ (.int .i64 ((k : Int) + 1))).setCell ⟨g, 2, none⟩ (.int .u64 s2)).heap[g]? = some (.cells #[.slice ad n cap, .int .i64 ((k : Int) + 1), .int .u64 s2] 109 (0, 0)) := blk_set (blk_set h0)
  have hK : KeptOff (fun k => k = g) w (((w.drewN m).setCell ⟨g, 1, none⟩ (.int .i64 ((k : Int) + 1))).setCell ⟨g, 2, none⟩ (.int .u64 s2)) :=
    (((kept0 (below_drewN (Below.refl w.heap.size w) m)).mono fun _ f => f.elim).trans (keptOff_set _ g 1 _)).trans (keptOff_set _ g 2 _)
  exact ⟨h2, hK, ad, n, cap, k + 1, s2, h2, by omega, hs, hr.off hK (fun hn b off e f => by have := hne hn b off e; omega), hne⟩

set_option maxRecDepth 100000 in
set_option maxHeartbeats 4000000 in
theorem c_next (g K : Nat) (w : World) (h : CurR w g K) (hK : K < 1073741824) :
    Calls Try.prog 138 #[.pointer (some ⟨g, 0, none⟩)] w fun e w' => ∃ x : Nat, e = .returned (.int .i64 (x : Int)) ∧ x < 256 ∧ CurR w' g (K + 1) ∧ KeptOff (fun k => k = g) w w' := by
  obtain ⟨ad, n, cap, k, s, hb, hk, hs, hr, hne⟩ := h
  obtain ⟨⟨c0, c1, c2⟩, f0, f1, f2⟩ := blk3c hb
  have hn := hr.1
  replace hr := Lib.hid hr
  replace hne := Lib.hid hne
  by_cases hlt : k < n
  · have hd : decide ((k : Int) < (n : Int)) = true := by simp; omega
    have hd2 : decide ((k : Int) + 1 ≤ (n : Int)) = true := by simp; omega
    obtain ⟨b, off, x, rfl, hbl, hcell, hx0, hx1⟩ := hr.out.2 k hlt
    obtain ⟨xn, rfl⟩ := Int.eq_ofNat_of_zero_le hx0
    go_enter Try.func138, Try.ntmps138
    go_wp2_with fail
    go_quiet (fail)
    obtain ⟨m1, hm1⟩ : ∃ m1, m1 = nq := ⟨_, rfl⟩
    rw [← hm1]
    clear hm1
    all_goals go_wp2_with fail
    all_goals go_quiet (fail)
    all_goals go_wp2_with fail
    obtain ⟨s2, hs2⟩ : ∃ s2, s2 = IntKind.u64.wrap (IntKind.u64.wrap (IntKind.u64.wrap (s * 6364136223846793005) + (xn : Int)) + 462197) := ⟨_, rfl⟩
    rw [← hs2]
    have hs3 : 0 ≤ s2 := hs2 ▸ u64_nonneg _
    clear hs2
    obtain ⟨q1, q2, q3⟩ := cur_stepped hb hk hr.out hne.out hs3 (m1 + nq)
    obtain ⟨w2, hw2⟩ : ∃ z, z = ((w.drewN (m1 + nq)).setCell ⟨g, 1, none⟩ (.int .i64 ((k : Int) + 1))).setCell ⟨g, 2, none⟩ (.int .u64 s2) := ⟨_, rfl⟩
    rw [← hw2] at q1 q2 q3 ⊢
    clear hw2 c0 c1 c2 f0 f1 f2 hcell
    obtain ⟨⟨c0, c1, c2⟩, f0, f1, f2⟩ := blk3c q1
    go_quiet (fail)
    all_goals go_wp2
    all_goals go_ret
    all_goals exact ⟨xn, rfl, by omega, q3.below (below_drewN (Below.refl _ _) _), kept_later q2 (below_drewN (Below.refl _ _) _)⟩
  · have hd : decide ((k : Int) < (n : Int)) = false := by simp; omega
    have hd2 : decide ((k : Int) + 1 ≤ (n : Int)) = false := by simp; omega
    go_enter Try.func138, Try.ntmps138
    go_wp2_with fail
    go_quiet (fail)
    all_goals go_wp2_with fail
    obtain ⟨s2, hs2⟩ : ∃ s2, s2 = IntKind.u64.wrap (IntKind.u64.wrap (IntKind.u64.wrap (s * 6364136223846793005)) + 462197) := ⟨_, rfl⟩
    rw [← hs2]
    have hs3 : 0 ≤ s2 := hs2 ▸ u64_nonneg _
    clear hs2
    obtain ⟨q1, q2, q3⟩ := cur_stepped hb hk hr.out hne.out hs3 nq
    obtain ⟨w2, hw2⟩ : ∃ z, z = ((w.drewN nq).setCell ⟨g, 1, none⟩ (.int .i64 ((k : Int) + 1))).setCell ⟨g, 2, none⟩ (.int .u64 s2) := ⟨_, rfl⟩
    rw [← hw2] at q1 q2 q3 ⊢
    clear hw2 c0 c1 c2 f0 f1 f2
    obtain ⟨⟨c0, c1, c2⟩, f0, f1, f2⟩ := blk3c q1
    obtain ⟨x, hx1, hx2⟩ := u64_and255 (s2 / 1099511627776)
    go_quiet (fail)
    all_goals go_wp2
    all_goals go_ret
    all_goals exact ⟨x, rfl, hx1, q3.below (below_drewN (Below.refl _ _) _), kept_later q2 (below_drewN (Below.refl _ _) _)⟩

theorem emod_nat (z n : Int) (hn : 1 < n) : ∃ x : Nat, z % n = (x : Int) ∧ (x : Int) < n := by
  have h1 := Int.emod_nonneg z (show n ≠ 0 by omega)
  have h2 := Int.emod_lt_of_pos z (show 0 < n by omega)
  obtain ⟨x, hx⟩ := Int.eq_ofNat_of_zero_le h1
  exact ⟨x, hx, by omega⟩
theorem c_pick (g K : Nat) (n : Int) (w : World) (h : CurR w g K) (hK : K < 1073741000) (hn : n < 65536) :
    Calls Try.prog 110 #[.pointer (some ⟨g, 0, none⟩), .int .i64 n] w fun e w' => ∃ x : Nat, e = .returned (.int .i64 (x : Int)) ∧ ((x : Int) < n ∨ x = 0) ∧ CurR w' g (K + 2) ∧ KeptOff (fun k => k = g) w w' := by
  by_cases h1 : n ≤ 1
  · go_enter Try.func110, Try.ntmps110
    go_wp2
    go_ret
    exact ⟨0, rfl, .inr rfl, h.more (by omega), KeptOff.refl _ _⟩
  · by_cases h2 : n > 200
    · go_enter Try.func110, Try.ntmps110
      go_wp2_with fail
      refine (c_next g K w h (by omega)).mono ?_
      rintro e w1 ⟨x, rfl, hx, q1, q2⟩
      go_wp2_with fail
      refine (c_next g (K + 1) w1 q1 (by omega)).mono ?_
      rintro e w2 ⟨y, rfl, hy, r1, r2⟩
      obtain ⟨z, hz1, hz2⟩ := emod_nat ((x : Int) * 256 + y) n (by omega)
      replace hz1 := Lib.hid hz1
      go_wp2
      go_ret
      exact ⟨z, by rw [← hz1.out]; rfl, .inl hz2, r1, q2.trans r2⟩
    · go_enter Try.func110, Try.ntmps110
      go_wp2_with fail
      refine (c_next g K w h (by omega)).mono ?_
      rintro e w1 ⟨x, rfl, hx, q1, q2⟩
      obtain ⟨z, hz1, hz2⟩ := emod_nat (x : Int) n (by omega)
      replace hz1 := Lib.hid hz1
      go_wp2
      go_ret
      exact ⟨z, by rw [← hz1.out]; rfl, .inl hz2, q1.more (by omega), q2⟩

theorem c_one (g K : Nat) (n : Int) (w : World) (h : CurR w g K) (hK : K < 1073741000) (hn : n < 65536) :
    Calls Try.prog 103 #[.pointer (some ⟨g, 0, none⟩), .int .i64 n] w fun e w' => ∃ b, e = .returned (.bool b) ∧ CurR w' g (K + 2) ∧ KeptOff (fun k => k = g) w w' := by
  go_enter Try.func103, Try.ntmps103
  go_wp2_with fail
  refine (c_pick g K n w h hK hn).mono ?_
  rintro e w1 ⟨x, rfl, hx, q1, q2⟩
  by_cases h0 : x = 0
  · subst h0
    go_wp2
    go_ret
    exact ⟨_, rfl, q1, q2⟩
  · have hd : ((x : Int) == 0) = false := by simp; omega
    go_wp2
    go_ret
    exact ⟨_, rfl, q1, q2⟩

theorem c_among (g K : Nat) (v : Value) (l : List Int) (w : World) (h : CurR w g K) (hK : K < 1073741000) (hl : Ints w v l) (h0 : 0 < l.length) (h1 : l.length < 65536) (hv : ∀ b off n c, v = .slice (some ⟨b, off, none⟩) n c → b ≠ g) :
    Calls Try.prog 109 #[.pointer (some ⟨g, 0, none⟩), v] w fun e w' => ∃ x, e = .returned (.int .i64 x) ∧ x ∈ l ∧ CurR w' g (K + 2) ∧ KeptOff (fun k => k = g) w w' := by
  obtain ⟨ad, cap, rfl, hlen, hat⟩ := hl.out
  go_enter Try.func109, Try.ntmps109
  go_wp2_with fail
  refine (c_pick g K (l.length : Int) w h hK (by omega)).mono ?_
  rintro e w1 ⟨x, rfl, hx, q1, q2⟩
  have hxl : x < l.length := by omega
  obtain ⟨b, off, rfl, hb, hcell⟩ := hl.at x hxl
  have hne := hv b off _ _ rfl
  have hc1 := (show w1.cell? ⟨b, off + x, none⟩ = w.cell? ⟨b, off + x, none⟩ by unfold World.cell?; rw [q2.block b hb hne]).trans hcell
  have hb1 : b < w1.heap.size := Nat.lt_of_lt_of_le hb q2.size
  go_wp2
  go_ret
  exact ⟨_, rfl, List.getElem_mem hxl, q1, q2⟩
end Go.Proofs.Ytpieaeokbblflaa
/- A region that draws its order, whose operations read, make memory, or draw numbers with a cursor; conditions: none. -/
namespace Go.Proofs.Ytpieaeokbblflaa
open Go.RowKit

/-- what is known of a value, whatever the cursor's block holds -/
structure DK (cg : Nat) where
  P : Value → World → Prop
  on : ∀ v w w', P v w → KeptOff (fun k => k = cg) w w' → P v w'
def dkT (cg : Nat) : DK cg := ⟨fun _ _ => True, fun _ _ _ _ _ => trivial⟩
def dkV (cg : Nat) (x : Value) : DK cg := ⟨fun v _ => v = x, fun _ _ _ h _ => h⟩
def dkN (cg : Nat) (p : Int → Prop) : DK cg := ⟨fun v _ => ∃ x, v = .int .i64 x ∧ p x, fun _ _ _ h _ => h⟩
def dkB (cg : Nat) : DK cg := ⟨fun v _ => ∃ b, v = .bool b, fun _ _ _ h _ => h⟩
theorem own_off {cg lo : Nat} (hl : cg < lo) {w w' : World} {v : Value} {E : TypeId} {us : List Value} (h : OwnS w lo E v us) (hk : KeptOff (fun k => k = cg) w w') : OwnS w' lo E v us :=
  h.off hk fun g e f => by have := (OwnS.lt h g e).1; omega
/-- a list of the region's own -/
def dkL (cg lo : Nat) (hl : cg < lo) (q : List Int → Prop) : DK cg := ⟨fun v w => ∃ xs, q xs ∧ OwnI w lo v xs, fun _ _ _ ⟨xs, h1, h2⟩ hk => ⟨xs, h1, own_off hl h2 hk⟩⟩
/-- a list of one number -/
def dkO (cg lo : Nat) (hl : cg < lo) (p : Int → Prop) : DK cg :=
  ⟨fun v w => ∃ b x, v = .slice (some ⟨b, 0, none⟩) 1 1 ∧ lo ≤ b ∧ w.cell? ⟨b, 0, none⟩ = some (.int .i64 x) ∧ p x, fun _ w w' ⟨b, x, h1, h2, h3, h4⟩ hk => ⟨b, x, h1, h2, by
    have hb := World.block_lt_of_cell? w _ h3
    rw [← h3]
    unfold World.cell?
    rw [hk.block b hb (by omega)], h4⟩⟩
/-- a list of lists of one list that is the region's own -/
def dkR (cg lo : Nat) (hl : cg < lo) (q : List Int → Prop) : DK cg :=
  ⟨fun v w => ∃ b xs r, v = .slice (some ⟨b, 0, none⟩) 1 1 ∧ lo ≤ b ∧ w.cell? ⟨b, 0, none⟩ = some r ∧ OwnI w lo r xs ∧ q xs, fun _ w w' ⟨b, xs, r, h1, h2, h3, h4, h5⟩ hk => ⟨b, xs, r, h1, h2, by
    have hb := World.block_lt_of_cell? w _ h3
    rw [← h3]
    unfold World.cell?
    rw [hk.block b hb (by omega)], own_off hl h4 hk, h5⟩⟩

/-- the operation has left a value -/
def StoodC (cg Kn : Nat) (rs : List (DK cg)) (a : Act) (sl : List (Option Nat)) (u : Nat → Value) (i : Nat) (o : Oper) (w : World) (Q : Exit → Act → World → Prop) : Exit → Act → World → Prop
  | .normal, a', w' => ∃ v, a' = (putAll a sl u).put o.dst v ∧ KeptOff (fun k => k = cg) w w' ∧ CurR w' cg (Kn + 2) ∧ (rs.getD i (dkT cg)).P v w'
  | e, a', w' => Q e a' w'

theorem wp_region_cur {P : Program} {ops : Array Oper} {Q : Exit → Act → World → Prop} {a : Act} {w0 : World} {id : Nat} (hm : P.follows .mixedOrders = true)
    (sl : List (Option Nat)) (t : Nat) (hs : slotsB ops sl = true) (hord : orderB ops = true) (htl : tailsB ops t = true) (ht : t ≤ ops.size) (tl : List Oper) (htl2 : ops.toList.drop t = tl)
    (cg K : Nat) (hc : CurR w0 cg K) (hK : K + 2 * t < 1073740000) (rs : List (DK cg))
    (hstep : ∀ i o, ops[i]? = some o → i < t → ∀ u w Kn, KeptOff (fun k => k = cg) w0 w → CurR w cg Kn → Kn < 1073740000 → (∀ j ∈ deps o, (rs.getD j (dkT cg)).P (u j) w) → wpList P ops (StoodC cg Kn rs a sl u i o w Q) [o] (putAll a sl u) w)
    (hend : ∀ u w, KeptOff (fun k => k = cg) w0 w → CurR w cg (K + 2 * t) → (∀ j, j < t → (rs.getD j (dkT cg)).P (u j) w) → wpList P ops Q tl (putAll a sl u) w) :
    (Code.region id ops true).wp P Q a w0 := by
  subst htl2
  have hd := (Below.refl w0.heap.size w0).drew
  have hd0 : KeptOff (fun k => k = cg) w0 w0.drew := (kept0 hd).mono fun _ f => f.elim
  refine wp_region_acc hm sl t hs hord htl ht (fun n w => KeptOff (fun k => k = cg) w0 w ∧ CurR w cg (K + 2 * n)) (KeptOff (fun k => k = cg)) (fun i => (rs.getD i (dkT cg)).P) (fun i v w w' h hk => (rs.getD i (dkT cg)).on v w w' h hk)
    ⟨hd0, hc.below hd⟩ (fun i o ho hi n u w hn hI hR => ?_) (fun u w hI hR => hend u w hI.1 hI.2 hR)
  have h := hstep i o ho hi u w (K + 2 * n) hI.1 hI.2 (by omega) hR
  simp only [wpList] at h ⊢
  have hnext : ∀ a' w', StoodC cg (K + 2 * n) rs a sl u i o w Q .normal a' w' → StoodA (fun n w => KeptOff (fun k => k = cg) w0 w ∧ CurR w cg (K + 2 * n)) (KeptOff (fun k => k = cg)) (fun i => (rs.getD i (dkT cg)).P) a sl u n i o w Q .normal a' w' := by
    rintro a' w' ⟨v, h1, h2, h3, h4⟩
    exact ⟨v, h1, ⟨hI.1.trans h2, h3⟩, h2, h4⟩
  split at h
  · next hw =>
    rw [if_pos hw]
    refine h.imp (wp_swap hnext (fun _ _ _ h => h) fun ⟨x, y, h⟩ => ⟨x, y, h⟩) fun ⟨h1, h2⟩ => ⟨h1, ?_⟩
    obtain ⟨x, y, h2⟩ := h2
    exact ⟨x, y, h2⟩
  · next hw =>
    rw [if_neg hw]
    exact hnext _ _ h
theorem kcell {w w' : World} {cg b j : Nat} {v : Value} (hk : KeptOff (fun k => k = cg) w w') (h : w.cell? ⟨b, j, none⟩ = some v) (hb : b ≠ cg) : w'.cell? ⟨b, j, none⟩ = some v := by
  have hl := World.block_lt_of_cell? w _ h
  rw [← h]
  unfold World.cell?
  rw [hk.block b hl hb]
theorem kblk {w w' : World} {cg b : Nat} {o : Obj} (hk : KeptOff (fun k => k = cg) w w') (h : w.heap[b]? = some o) (hb : b ≠ cg) : w'.heap[b]? = some o :=
  (hk.block b (Array.getElem?_eq_some_iff.1 h).1 hb).trans h
theorem kalloc {w : World} {F : Nat → Prop} (c : Obj) : KeptOff F w (w.alloc c) := (kept0 ((Below.refl w.heap.size w).alloc (Nat.le_refl _) c)).mono fun _ f => f.elim
/-- out = append(out, n), the new number in a block of its own -/
theorem wp_append_intH {ops : Array Oper} {rest : List Oper} {o : Oper} {a : Act} {Q : Exit → Act → World → Prop} (w : World) (hgd : o.guard = none) (s x : Operand)
    (ho : o.op = .call { callee := .builtin .append, args := #[s, x], argTypes := #[31, 31] }) (B : Nat) (v : Value) (xs : List Int) (hs : a.eval s = v) (hown : OwnI w B v xs)
    (n : Int) {g : Nat} (hx : a.eval x = .slice (some ⟨g, 0, none⟩) 1 1) (hg : w.cell? ⟨g, 0, none⟩ = some (.int .i64 n)) (hlen : xs.length < 1099511627776) (hB : B ≤ w.heap.size)
    (h : ∀ v' w', OwnI w' B v' (xs ++ [n]) → w.grownBy w' v.ownBlock → (v'.ownBlock = v.ownBlock ∨ v'.ownBlock = some w.heap.size) → wpList Try.prog ops Q rest (a.put o.dst v') w') :
    wpList Try.prog ops Q (o :: rest) a w := by
  refine wp_append_intsG w hgd s x ho B v xs hs hown _ [n] hx ⟨some ⟨g, 0, none⟩, 1, by simp, by simp, fun j u hu => ?_⟩ (by simp) (by simp; omega) hB fun v' w' h1 h2 _ h4 => h v' w' h1 h2 h4
  have : j = 0 := by have := (List.getElem?_eq_some_iff.1 hu).1; simpa using this
  subst this
  simp at hu
  subst hu
  exact ⟨g, 0, rfl, World.block_lt_of_cell? w _ hg, hg⟩
theorem Sl.off {w w' : World} {v : Value} {us : List Value} {G : Nat → Prop} (h : Sl w v us) (hk : KeptOff G w w') (hG : ∀ g, v.ownBlock = some g → ¬ G g) : Sl w' v us := by
  obtain ⟨a, cap, rfl, hl, hc⟩ := h
  refine ⟨a, cap, rfl, hl, fun j u hu => ?_⟩
  obtain ⟨b, off, rfl, hb, hcell⟩ := hc j u hu
  refine ⟨b, off, rfl, Nat.lt_of_lt_of_le hb hk.size, ?_⟩
  rw [← hcell]
  unfold World.cell?
  rw [hk.block b hb (hG b rfl)]
/-- read, from blocks from lo on -/
def IntsB (w : World) (lo : Nat) (v : Value) (xs : List Int) : Prop := Ints w v xs ∧ ∀ g, v.ownBlock = some g → lo ≤ g
def RowsB (w : World) (lo : Nat) (v : Value) (xss : List (List Int)) : Prop :=
  ∃ vs : List Value, Sl w v vs ∧ vs.length = xss.length ∧ (∀ i (h : i < vs.length) (h' : i < xss.length), Ints w vs[i] xss[i]) ∧ (∀ g, v.ownBlock = some g → lo ≤ g) ∧ ∀ i (_ : i < vs.length) g, vs[i].ownBlock = some g → lo ≤ g
theorem IntsB.off {w w' : World} {lo : Nat} {v : Value} {xs : List Int} {G : Nat → Prop} (h : IntsB w lo v xs) (hk : KeptOff G w w') (hG : ∀ k, G k → k < lo) : IntsB w' lo v xs :=
  ⟨Sl.off h.1 hk fun g e f => by have := h.2 g e; have := hG g f; omega, h.2⟩
theorem RowsB.off {w w' : World} {lo : Nat} {v : Value} {xss : List (List Int)} {G : Nat → Prop} (h : RowsB w lo v xss) (hk : KeptOff G w w') (hG : ∀ k, G k → k < lo) : RowsB w' lo v xss := by
  obtain ⟨vs, hs, hn, hr, hv, hvs⟩ := h
  exact ⟨vs, hs.off hk fun g e f => by have := hv g e; have := hG g f; omega, hn, fun i h1 h2 => Sl.off (hr i h1 h2) hk fun g e f => by have := hvs i h1 g e; have := hG g f; omega, hv, hvs⟩
theorem RowsB.rows {w : World} {lo : Nat} {v : Value} {xss : List (List Int)} (h : RowsB w lo v xss) : Rows2 w v xss := by
  obtain ⟨vs, hs, hn, hr, -⟩ := h
  exact ⟨vs, hs, hn, hr⟩
theorem OwnI.b {w : World} {B : Nat} {v : Value} {xs : List Int} (h : OwnI w B v xs) : IntsB w B v xs := ⟨h.ints, fun g e => (OwnS.lt h g e).1⟩
theorem OwnR.b {w : World} {B : Nat} {F : Nat → Prop} {v : Value} {xss : List (List Int)} (h : OwnR w B F v xss) : RowsB w B v xss := by
  obtain ⟨vs, hs, hn, hr, -⟩ := h
  exact ⟨vs, hs.sl, hn, fun i h1 h2 => (hr i h1 h2).ints, fun g e => (hs.lt g e).1, fun i h1 g e => (OwnS.lt (hr i h1 (by omega)) g e).1⟩
/-- a list of the region's own, or a part of it -/
def dkI (cg lo : Nat) (hl : cg < lo) (q : List Int → Prop) : DK cg :=
  ⟨fun v w => ∃ xs, q xs ∧ IntsB w lo v xs, fun _ _ _ ⟨xs, h1, h2⟩ hk => ⟨xs, h1, h2.off hk fun k e => by omega⟩⟩
theorem own_form {w : World} {B : Nat} {E : TypeId} {v : Value} {us : List Value} (h : OwnS w B E v us) (h0 : 0 < us.length) : ∃ g cap, v = .slice (some ⟨g, 0, none⟩) us.length cap ∧ B ≤ g := by
  rcases h.1.2 with ⟨hv, hn⟩ | ⟨g, cap, cur, hv, hg, -⟩
  · omega
  · exact ⟨g, cap, hv, hg⟩
theorem OwnI.form {w : World} {B : Nat} {v : Value} {xs : List Int} (h : OwnI w B v xs) (h0 : 0 < xs.length) : ∃ g cap, v = .slice (some ⟨g, 0, none⟩) xs.length cap ∧ B ≤ g := by
  obtain ⟨g, cap, e, hg⟩ := own_form h (by simpa using h0)
  exact ⟨g, cap, by simpa using e, hg⟩
theorem OwnR.form {w : World} {B : Nat} {F : Nat → Prop} {v : Value} {xss : List (List Int)} (h : OwnR w B F v xss) (h0 : 0 < xss.length) : ∃ g cap, v = .slice (some ⟨g, 0, none⟩) xss.length cap ∧ B ≤ g := by
  obtain ⟨vs, hs, hn, -⟩ := h
  obtain ⟨g, cap, e, hg⟩ := own_form hs (by omega)
  exact ⟨g, cap, by rw [e, hn], hg⟩
/-- an element of a list of lists that is the call's own: it can be stored -/
theorem OwnR.cellAt {w : World} {B g n cap : Nat} {F : Nat → Prop} {xss : List (List Int)} (h : OwnR w B F (.slice (some ⟨g, 0, none⟩) n cap) xss) (j : Nat) (hj : j < xss.length) : ∃ u, w.cell? ⟨g, j, none⟩ = some u ∧ w.frozen? ⟨g, j, none⟩ = false := by
  obtain ⟨vs, hs, hn, -⟩ := h
  have := OwnS.cell hs j (by omega)
  exact ⟨_, this.1, this.2⟩
/-- one row is another -/
theorem rowsB_set {w : World} {B lo g n cap : Nat} {F : Nat → Prop} {xss : List (List Int)} (h : OwnR w B F (.slice (some ⟨g, 0, none⟩) n cap) xss) (hB : lo ≤ B) (j : Nat) (u : Value) (ys : List Int) (hu : IntsB w lo u ys) (hne : ∀ k, u.ownBlock = some k → k ≠ g) :
    RowsB (w.setCell ⟨g, j, none⟩ u) lo (.slice (some ⟨g, 0, none⟩) n cap) (xss.set j ys) := by
  obtain ⟨vs, hs, hn, hr, -⟩ := h
  have hk := keptOff_set w g j u
  refine ⟨vs.set j u, (hs.set j u).1.sl, by simp [hn], fun i h1 h2 => ?_, fun q e => Nat.le_trans hB (hs.lt q e).1, fun i h1 q e => ?_⟩
  · simp only [List.length_set] at h1 h2
    simp only [List.getElem_set]
    split
    · exact Sl.off hu.1 hk fun k e f => hne k e f
    · exact ((hr i h1 h2).off hk fun k e e2 => OwnS.apart (hr i h1 h2) hs (by decide) e (by rw [e2]; rfl)).ints
  · simp only [List.length_set] at h1
    simp only [List.getElem_set] at e
    split at e
    · exact hu.2 q e
    · exact Nat.le_trans hB (OwnS.lt (hr i h1 (by omega)) q e).1
/-- the rows behind the first -/
theorem rowsB_tail {w : World} {lo b off n cap : Nat} {xss : List (List Int)} (h : RowsB w lo (.slice (some ⟨b, off, none⟩) n cap) xss) (hn : 0 < n) : RowsB w lo (.slice (some ⟨b, off + 1, none⟩) (n - 1) (cap - 1)) xss.tail := by
  obtain ⟨vs, ⟨a, c, e, hl, hc⟩, hn2, hr, hv, hvs⟩ := h
  simp only [Value.slice.injEq] at e
  obtain ⟨rfl, rfl, rfl⟩ := e
  refine ⟨vs.tail, ⟨_, _, by rw [List.length_tail], by simp; omega, fun j u hu => ?_⟩, by simp [hn2], fun i h1 h2 => ?_, fun g e => hv g e, fun i h1 g e => ?_⟩
  · rw [List.getElem?_tail] at hu
    obtain ⟨b', off', e, hb, hcell⟩ := hc (j + 1) u hu
    cases e
    exact ⟨b, off + 1, rfl, hb, by rw [show off + 1 + j = off + (j + 1) by omega]; exact hcell⟩
  · simp only [List.length_tail] at h1 h2
    simp only [List.getElem_tail]
    exact hr _ _ _
  · simp only [List.length_tail] at h1
    simp only [List.getElem_tail] at e
    exact hvs _ _ g e
theorem intsB_take {w : World} {lo b off n cap : Nat} {xs : List Int} (h : IntsB w lo (.slice (some ⟨b, off, none⟩) n cap) xs) (m : Nat) (hm : m ≤ xs.length) : IntsB w lo (.slice (some ⟨b, off, none⟩) m cap) (xs.take m) := by
  refine ⟨?_, h.2⟩
  obtain ⟨a, c, e, hl, hc⟩ := h.1
  simp only [Value.slice.injEq, List.length_map] at e
  obtain ⟨rfl, rfl, rfl⟩ := e
  have hl2 : xs.length ≤ cap := by simpa using hl.1
  have hl3 : (List.map (Value.int .i64) (xs.take m)).length = m := by simp; omega
  refine ⟨_, _, by rw [hl3], by rw [hl3]; omega, fun j u hu => ?_⟩
  rw [List.map_take, List.getElem?_take] at hu
  split at hu
  · exact hc j u hu
  · cases hu
/-- four cells are stored -/
theorem stored4 {w : World} {b : Nat} {z0 z1 z2 z3 : Value} {t : TypeId} (p : w.heap[b]? = some (.cells #[z0, z1, z2, z3] t (0, 0))) (v0 v1 v2 v3 : Value) :
    ((((((w.setCell ⟨b, 0, none⟩ v0).setCell ⟨b, 1, none⟩ v1).setCell ⟨b, 2, none⟩ v2).setCell ⟨b, 3, none⟩ v3).cell? ⟨b, 0, none⟩ = some v0 ∧ ((((w.setCell ⟨b, 0, none⟩ v0).setCell ⟨b, 1, none⟩ v1).setCell ⟨b, 2, none⟩ v2).setCell ⟨b, 3, none⟩ v3).cell? ⟨b, 1, none⟩ = some v1) ∧
      (((((w.setCell ⟨b, 0, none⟩ v0).setCell ⟨b, 1, none⟩ v1).setCell ⟨b, 2, none⟩ v2).setCell ⟨b, 3, none⟩ v3).cell? ⟨b, 2, none⟩ = some v2 ∧ ((((w.setCell ⟨b, 0, none⟩ v0).setCell ⟨b, 1, none⟩ v1).setCell ⟨b, 2, none⟩ v2).setCell ⟨b, 3, none⟩ v3).cell? ⟨b, 3, none⟩ = some v3)) ∧
      KeptOff (fun k => k = b) w ((((w.setCell ⟨b, 0, none⟩ v0).setCell ⟨b, 1, none⟩ v1).setCell ⟨b, 2, none⟩ v2).setCell ⟨b, 3, none⟩ v3) := by
  have q := blk_set (j := 3) (v := v3) (blk_set (j := 2) (v := v2) (blk_set (j := 1) (v := v1) (blk_set (j := 0) (v := v0) p)))
  refine ⟨⟨⟨?_, ?_⟩, ?_, ?_⟩, ((((keptOff_set w b 0 v0).trans (keptOff_set _ b 1 v1)).trans (keptOff_set _ b 2 v2)).trans (keptOff_set _ b 3 v3))⟩ <;> simp only [World.cell?, q] <;> rfl
end Go.Proofs.Ytpieaeokbblflaa
/- A talk in the making: its box, its three lists behind it; conditions: none. -/
namespace Go.Proofs.Ytpieaeokbblflaa
open Go.RowKit

theorem OwnR.tightT {w : World} {B : Nat} {F : Nat → Prop} {v : Value} {xss : List (List Int)} (h : OwnR w B F v xss) : OwnR w B (fun k => F k ∧ B ≤ k ∧ k < w.heap.size) v xss := by
  obtain ⟨vs, hs, hn, hr, hd, hf, hg⟩ := h
  exact ⟨vs, hs, hn, hr, hd, fun g e => ⟨hf g e, hs.lt g e⟩, fun i h1 g e => ⟨hg i h1 g e, OwnS.lt (hr i h1 (by omega)) g e⟩⟩
theorem keptT {F G : Nat → Prop} {w a b : World} (h : KeptOff F w a) (k : KeptOff G a b) (hG : ∀ k, k < w.heap.size → G k → F k) : KeptOff F w b :=
  ⟨k.os.trans h.os, k.tape.trans h.tape, k.output.trans h.output, Nat.le_trans h.size k.size, fun i hi hf => (k.block i (Nat.lt_of_lt_of_le hi h.size) fun g => hf (hG i hi g)).trans (h.block i hi hf)⟩

structure TalX (w : World) (gb lim : Nat) (v1 v2 v3 : Value) (r : TalkD) : Prop where
  box : w.heap[gb]? = some (.cells #[v1, v2, v3] 38 (0, 0))
  p : OwnI w (gb + 1) v1 r.p
  s : OwnR w (gb + 1) (fun k => v1.ownBlock ≠ some k ∧ v3.ownBlock ≠ some k ∧ k < lim) v2 r.s
  x : OwnPr w (gb + 1) v3 r.x
  d : ∀ k, v1.ownBlock = some k → v3.ownBlock ≠ some k
  le : lim ≤ w.heap.size
section
variable {w w' : World} {gb lim : Nat} {v1 v2 v3 v' : Value} {r : TalkD}
theorem TalX.lt (h : TalX w gb lim v1 v2 v3 r) : gb < w.heap.size := (Array.getElem?_eq_some_iff.1 h.box).1
theorem TalX.s2 (h : TalX w gb lim v1 v2 v3 r) : ∀ k, v2.ownBlock = some k → (v1.ownBlock ≠ some k ∧ v3.ownBlock ≠ some k ∧ k < lim) ∧ gb + 1 ≤ k ∧ k < w.heap.size := by
  obtain ⟨vs, hs, hn, hr, hd, hf, hg⟩ := h.s
  exact fun k e => ⟨hf k e, hs.lt k e⟩
theorem TalX.off {G : Nat → Prop} (h : TalX w gb lim v1 v2 v3 r) (hk : KeptOff G w w') (hG : ∀ k, G k → k < gb) : TalX w' gb lim v1 v2 v3 r :=
  ⟨(hk.block gb h.lt fun g => by have := hG _ g; omega).trans h.box, h.p.off hk fun g e f => by have := OwnS.lt h.p g e; have := hG _ f; omega,
    (h.s.tightT.off hk fun k f g => by have := hG _ g; omega).mono (Nat.le_refl _) fun k f => f.1, OwnD.off h.x hk fun g e f => by have := OwnD.lt h.x g e; have := hG _ f; omega, h.d, Nat.le_trans h.le hk.size⟩
theorem TalX.below (h : TalX w gb lim v1 v2 v3 r) (hb : Below w.heap.size w w') : TalX w' gb lim v1 v2 v3 r := h.off (kept0 hb) fun _ f => f.elim
theorem TalX.relim (h : TalX w gb lim v1 v2 v3 r) : TalX w gb w.heap.size v1 v2 v3 r :=
  ⟨h.box, h.p, h.s.tightT.mono (Nat.le_refl _) fun _ f => ⟨f.1.1, f.1.2.1, f.2.2⟩, h.x, h.d, Nat.le_refl _⟩
theorem TalX.form (h : TalX w gb lim v1 v2 v3 r) : ∃ a1 k1 a2 k2 a3 k3, v1 = .slice a1 r.p.length k1 ∧ v2 = .slice a2 r.s.length k2 ∧ v3 = .slice a3 r.x.length k3 := by
  obtain ⟨a1, k1, rfl, -, -⟩ := h.p.ints.out
  obtain ⟨a2, k2, rfl, -⟩ := h.s.rows.out
  obtain ⟨a3, k3, rfl, -⟩ := h.x.pairs.out
  exact ⟨_, _, _, _, _, _, rfl, rfl, rfl⟩
theorem tal_cells {a b c : Value} {t : TypeId} (h : w.heap[gb]? = some (.cells #[a, b, c] t (0, 0))) (v : Value) :
    (w.setCell ⟨gb, 0, none⟩ v).heap[gb]? = some (.cells #[v, b, c] t (0, 0)) ∧ (w.setCell ⟨gb, 1, none⟩ v).heap[gb]? = some (.cells #[a, v, c] t (0, 0)) ∧ (w.setCell ⟨gb, 2, none⟩ v).heap[gb]? = some (.cells #[a, b, v] t (0, 0)) :=
  ⟨blk_set h, blk_set h, blk_set h⟩
theorem TalX.grown1 (h : TalX w gb lim v1 v2 v3 r) (h2 : w.grownBy w' v1.ownBlock) : w'.heap[gb]? = some (.cells #[v1, v2, v3] 38 (0, 0)) :=
  ((grown_kept h2).block gb h.lt fun e => by have := OwnS.lt h.p _ e; omega).trans h.box
theorem TalX.grown2 (h : TalX w gb lim v1 v2 v3 r) (h2 : w.grownBy w' v2.ownBlock) : w'.heap[gb]? = some (.cells #[v1, v2, v3] 38 (0, 0)) :=
  ((grown_kept h2).block gb h.lt fun e => by have := (h.s2 _ e).2; omega).trans h.box
theorem TalX.grown3 (h : TalX w gb lim v1 v2 v3 r) (h2 : w.grownBy w' v3.ownBlock) : w'.heap[gb]? = some (.cells #[v1, v2, v3] 38 (0, 0)) :=
  ((grown_kept h2).block gb h.lt fun e => by have := OwnD.lt h.x _ e; omega).trans h.box
/-- a speaker has been added -/
theorem TalX.addP (h : TalX w gb lim v1 v2 v3 r) (n : Int) (h1 : OwnI w' (gb + 1) v' (r.p ++ [n])) (h2 : w.grownBy w' v1.ownBlock) (h3 : v'.ownBlock = v1.ownBlock ∨ v'.ownBlock = some w.heap.size) :
    TalX (w'.setCell ⟨gb, 0, none⟩ v') gb lim v' v2 v3 ⟨r.p ++ [n], r.s, r.x⟩ ∧ KeptOff (fun k => k = gb ∨ v1.ownBlock = some k) w (w'.setCell ⟨gb, 0, none⟩ v') := by
  have hk := grown_kept h2
  have hs := keptOff_set w' gb 0 v'
  have hle := h.le
  refine ⟨⟨(tal_cells (h.grown1 h2) v').1, h1.off hs fun g e f => by have := OwnS.lt h1 g e; omega,
    ((h.s.tightT.off hk fun k f e => f.1.1 e).off hs fun k f g => by omega).mono (Nat.le_refl _) fun k f => ⟨fun e => ?_, f.1.2.1, f.1.2.2⟩,
    OwnD.off (OwnD.off h.x hk fun g e f => h.d g f e) hs fun g e f => by have := OwnD.lt h.x g e; omega, fun k e => ?_, by have := hk.size; simpa using Nat.le_trans hle this⟩,
    (hk.mono fun k e => .inr e).trans (hs.mono fun k e => .inl e)⟩
  · rcases h3 with h3 | h3
    · exact f.1.1 (h3 ▸ e)
    · rw [h3] at e; injection e with e; omega
  · rcases h3 with h3 | h3
    · exact h.d k (h3 ▸ e)
    · rw [h3] at e; injection e with e
      intro e2
      have := OwnD.lt h.x k e2; omega
/-- what is said has been added -/
theorem TalX.addS {rw : Value} (h : TalX w gb lim v1 v2 v3 r) (ys : List Int) (hrw : ∀ k, rw.ownBlock = some k → v1.ownBlock ≠ some k ∧ v3.ownBlock ≠ some k ∧ k < w'.heap.size)
    (h1 : ∀ G : Nat → Prop, (∀ k, (v1.ownBlock ≠ some k ∧ v3.ownBlock ≠ some k ∧ k < lim) → G k) → (∀ k, rw.ownBlock = some k → G k) → (∀ k, w.heap.size ≤ k → k < w'.heap.size → G k) → OwnR w' (gb + 1) G v' (r.s ++ [ys])) (h2 : w.grownBy w' v2.ownBlock) :
    TalX (w'.setCell ⟨gb, 1, none⟩ v') gb w'.heap.size v1 v' v3 ⟨r.p, r.s ++ [ys], r.x⟩ ∧ KeptOff (fun k => k = gb ∨ v2.ownBlock = some k) w (w'.setCell ⟨gb, 1, none⟩ v') := by
  have hk := grown_kept h2
  have hs := keptOff_set w' gb 1 v'
  have hle := h.le
  have hz := hk.size
  have hR := h1 (fun k => v1.ownBlock ≠ some k ∧ v3.ownBlock ≠ some k ∧ k < w'.heap.size) (fun k f => ⟨f.1, f.2.1, by omega⟩) hrw (fun k f g => ⟨fun e => by have := OwnS.lt h.p k e; omega, fun e => by have := OwnD.lt h.x k e; omega, g⟩)
  refine ⟨⟨(tal_cells (h.grown2 h2) v').2.1, (h.p.off hk fun g e f => (h.s2 g f).1.1 e).off hs fun g e f => by have := OwnS.lt h.p g e; omega,
    (hR.tightT.off hs fun k f g => by omega).mono (Nat.le_refl _) fun k f => f.1,
    OwnD.off (OwnD.off h.x hk fun g e f => (h.s2 g f).1.2.1 e) hs fun g e f => by have := OwnD.lt h.x g e; omega, h.d, by simp⟩,
    (hk.mono fun k e => .inr e).trans (hs.mono fun k e => .inl e)⟩
/-- a pair has been added -/
theorem TalX.addX (h : TalX w gb lim v1 v2 v3 r) (y : Int × Int) (h1 : OwnPr w' (gb + 1) v' (r.x ++ [y])) (h2 : w.grownBy w' v3.ownBlock) (h3 : v'.ownBlock = v3.ownBlock ∨ v'.ownBlock = some w.heap.size) :
    TalX (w'.setCell ⟨gb, 2, none⟩ v') gb lim v1 v2 v' ⟨r.p, r.s, r.x ++ [y]⟩ ∧ KeptOff (fun k => k = gb ∨ v3.ownBlock = some k) w (w'.setCell ⟨gb, 2, none⟩ v') := by
  have hk := grown_kept h2
  have hs := keptOff_set w' gb 2 v'
  have hle := h.le
  refine ⟨⟨(tal_cells (h.grown3 h2) v').2.2, (h.p.off hk fun g e f => h.d g e f).off hs fun g e f => by have := OwnS.lt h.p g e; omega,
    ((h.s.tightT.off hk fun k f e => f.1.2.1 e).off hs fun k f g => by omega).mono (Nat.le_refl _) fun k f => ⟨f.1.1, fun e => ?_, f.1.2.2⟩,
    OwnD.off h1 hs fun g e f => by have := OwnD.lt h1 g e; omega, fun k e e2 => ?_, by have := hk.size; simpa using Nat.le_trans hle this⟩,
    (hk.mono fun k e => .inr e).trans (hs.mono fun k e => .inl e)⟩
  · rcases h3 with h3 | h3
    · exact f.1.2.1 (h3 ▸ e)
    · rw [h3] at e; injection e with e; omega
  · rcases h3 with h3 | h3
    · exact h.d k e (h3 ▸ e2)
    · rw [h3] at e2; injection e2 with e2
      have := OwnS.lt h.p k e; omega
/-- pairs that are read, in blocks from lo on -/
def PairsB (w : World) (lo : Nat) (v : Value) (ps : List (Int × Int)) : Prop := Pairs w v ps ∧ ∀ g, v.ownBlock = some g → lo ≤ g
theorem Pairs.off {v : Value} {ps : List (Int × Int)} {G : Nat → Prop} (h : Pairs w v ps) (hk : KeptOff G w w') (hG : ∀ g, v.ownBlock = some g → ¬ G g) : Pairs w' v ps := by
  obtain ⟨a, cap, rfl, hl, hc⟩ := h
  refine ⟨a, cap, rfl, hl, fun j hj => ?_⟩
  obtain ⟨b, off, rfl, hb, hcell⟩ := hc j hj
  refine ⟨b, off, rfl, Nat.lt_of_lt_of_le hb hk.size, ?_⟩
  rw [← hcell]
  unfold World.cell?
  rw [hk.block b hb (hG b rfl)]
theorem PairsB.off {lo : Nat} {v : Value} {ps : List (Int × Int)} {G : Nat → Prop} (h : PairsB w lo v ps) (hk : KeptOff G w w') (hG : ∀ k, G k → k < lo) : PairsB w' lo v ps :=
  ⟨h.1.off hk fun g e f => by have := h.2 g e; have := hG g f; omega, h.2⟩
theorem OwnPr.b {B : Nat} {v : Value} {ps : List (Int × Int)} (h : OwnPr w B v ps) : PairsB w B v ps := ⟨h.pairs, fun g e => (OwnD.lt h g e).1⟩
/-- a talk that is read, from blocks from lo on -/
def TalkB (w : World) (lo : Nat) (v : Value) (r : TalkD) : Prop := ∃ v1 v2 v3, v = .agg #[v1, v2, v3] ∧ IntsB w lo v1 r.p ∧ RowsB w lo v2 r.s ∧ PairsB w lo v3 r.x
theorem TalkB.off {lo : Nat} {v : Value} {G : Nat → Prop} (h : TalkB w lo v r) (hk : KeptOff G w w') (hG : ∀ k, G k → k < lo) : TalkB w' lo v r := by
  obtain ⟨v1, v2, v3, e, h1, h2, h3⟩ := h
  exact ⟨v1, v2, v3, e, h1.off hk hG, h2.off hk hG, h3.off hk hG⟩
theorem TalkB.mono {lo lo' : Nat} {v : Value} (h : TalkB w lo v r) (hl : lo' ≤ lo) : TalkB w lo' v r := by
  obtain ⟨v1, v2, v3, e, h1, h2, h3⟩ := h
  obtain ⟨vs, hs, hn, hr, hv, hvs⟩ := h2
  exact ⟨v1, v2, v3, e, ⟨h1.1, fun g e => Nat.le_trans hl (h1.2 g e)⟩, ⟨vs, hs, hn, hr, fun g e => Nat.le_trans hl (hv g e), fun i h1 g e => Nat.le_trans hl (hvs i h1 g e)⟩, ⟨h3.1, fun g e => Nat.le_trans hl (h3.2 g e)⟩⟩
theorem TalkB.rd {lo : Nat} {v : Value} (h : TalkB w lo v r) : TalkR w v r := by
  obtain ⟨v1, v2, v3, e, h1, h2, h3⟩ := h
  exact ⟨v1, v2, v3, e, h1.1, h2.rows, h3.1⟩
theorem TalkB.form {lo : Nat} {v : Value} (h : TalkB w lo v r) : ∃ a1 k1 a2 k2 a3 k3, v = .agg #[.slice a1 r.p.length k1, .slice a2 r.s.length k2, .slice a3 r.x.length k3] := h.rd.form
theorem talkB_nil (w : World) (lo : Nat) : TalkB w lo (.agg #[.slice none 0 0, .slice none 0 0, .slice none 0 0]) ⟨[], [], []⟩ :=
  ⟨_, _, _, rfl, (own_nil w lo).b, (ownR_nil w lo fun _ => True).b, OwnPr.b (show OwnPr w lo (.slice none 0 0) [] from ⟨by simpa [flat] using World.ownsRow_nil w lo 76 2, by simp⟩)⟩
/-- a talk that is read through its box -/
structure TalY (w : World) (gb : Nat) (v1 v2 v3 : Value) (r : TalkD) : Prop where
  box : w.heap[gb]? = some (.cells #[v1, v2, v3] 38 (0, 0))
  tk : TalkB w (gb + 1) (.agg #[v1, v2, v3]) r
theorem TalX.rd (h : TalX w gb lim v1 v2 v3 r) : TalY w gb v1 v2 v3 r := ⟨h.box, _, _, _, rfl, h.p.b, h.s.b, OwnPr.b h.x⟩
theorem TalY.off {G : Nat → Prop} (h : TalY w gb v1 v2 v3 r) (hk : KeptOff G w w') (hG : ∀ k, G k → k < gb) : TalY w' gb v1 v2 v3 r :=
  ⟨(hk.block gb (Array.getElem?_eq_some_iff.1 h.box).1 fun g => by have := hG _ g; omega).trans h.box, h.tk.off hk fun k g => by have := hG k g; omega⟩
theorem TalY.form (h : TalY w gb v1 v2 v3 r) : ∃ a1 k1 a2 k2 a3 k3, v1 = .slice a1 r.p.length k1 ∧ v2 = .slice a2 r.s.length k2 ∧ v3 = .slice a3 r.x.length k3 := by
  obtain ⟨a1, k1, a2, k2, a3, k3, e⟩ := h.tk.form
  simp only [Value.agg.injEq] at e
  have := congrArg Array.toList e
  simp at this
  obtain ⟨rfl, rfl, rfl⟩ := this
  exact ⟨_, _, _, _, _, _, rfl, rfl, rfl⟩
/-- one speaker is another -/
theorem TalX.setP {g n cap : Nat} (h : TalX w gb lim (.slice (some ⟨g, 0, none⟩) n cap) v2 v3 r) (j : Nat) (y : Int) :
    TalY (w.setCell ⟨g, j, none⟩ (.int .i64 y)) gb (.slice (some ⟨g, 0, none⟩) n cap) v2 v3 ⟨r.p.set j y, r.s, r.x⟩ ∧ KeptOff (fun k => gb ≤ k) w (w.setCell ⟨g, j, none⟩ (.int .i64 y)) := by
  obtain ⟨h1, h2⟩ := h.p.set j y
  have hs := keptOff_set w g j (.int .i64 y)
  have hg := OwnS.lt h.p g rfl
  exact ⟨⟨(hs.block gb h.lt (by omega)).trans h.box, _, _, _, rfl, h1.b, (h.s.off hs fun k f e => f.1 (by subst e; rfl)).b, OwnPr.b (OwnD.off h.x hs fun k e f => h.d g rfl (by rw [← f]; exact e))⟩, hs.mono fun k e => by omega⟩
/-- one list of what is said is another -/
theorem TalX.setS {g n cap : Nat} (h : TalX w gb lim v1 (.slice (some ⟨g, 0, none⟩) n cap) v3 r) (j : Nat) (u : Value) (ys : List Int) (hu : IntsB w (gb + 1) u ys) (hne : ∀ k, u.ownBlock = some k → k ≠ g) :
    TalY (w.setCell ⟨g, j, none⟩ u) gb v1 (.slice (some ⟨g, 0, none⟩) n cap) v3 ⟨r.p, r.s.set j ys, r.x⟩ ∧ KeptOff (fun k => gb ≤ k) w (w.setCell ⟨g, j, none⟩ u) := by
  have hs := keptOff_set w g j u
  obtain ⟨f, hg⟩ := h.s2 g rfl
  exact ⟨⟨(hs.block gb h.lt (by omega)).trans h.box, _, _, _, rfl, (h.p.off hs fun k e e2 => f.1 (by rw [← e2]; exact e)).b, rowsB_set h.s (Nat.le_refl _) j u ys hu hne, OwnPr.b (OwnD.off h.x hs fun k e e2 => f.2.1 (by rw [← e2]; exact e))⟩, hs.mono fun k e => by omega⟩
/-- one pair is another -/
theorem TalX.setX {g n cap : Nat} (h : TalX w gb lim v1 v2 (.slice (some ⟨g, 0, none⟩) n cap) r) (j : Nat) (hj : j < r.x.length) (y z : Int) :
    TalY ((w.setCell ⟨g, j * 2, none⟩ (.int .i64 y)).setCell ⟨g, j * 2 + 1, none⟩ (.int .i64 z)) gb v1 v2 (.slice (some ⟨g, 0, none⟩) n cap) ⟨r.p, r.s, r.x.set j (y, z)⟩ ∧
      KeptOff (fun k => gb ≤ k) w ((w.setCell ⟨g, j * 2, none⟩ (.int .i64 y)).setCell ⟨g, j * 2 + 1, none⟩ (.int .i64 z)) := by
  have h1 := (OwnD.set h.x (j * 2) y).set (j * 2 + 1) z
  have hs := (keptOff_set w g (j * 2) (.int .i64 y)).trans (keptOff_set (w.setCell ⟨g, j * 2, none⟩ (.int .i64 y)) g (j * 2 + 1) (.int .i64 z))
  have hg := OwnD.lt h.x g rfl
  have e : ((flat r.x).set (j * 2) y).set (j * 2 + 1) z = flat (r.x.set j (y, z)) := by
    generalize r.x = l at hj
    clear h h1 hs hg
    induction l generalizing j with
    | nil => simp at hj
    | cons a l ih =>
      cases j with
      | zero => simp [flat]
      | succ j =>
        have := ih j (by simpa using hj)
        simp only [flat, show (j + 1) * 2 = j * 2 + 1 + 1 by omega, List.set_cons_succ]
        rw [this]
  rw [e] at h1
  exact ⟨⟨(hs.block gb h.lt (by omega)).trans h.box, _, _, _, rfl, (h.p.off hs fun k e2 f => h.d k e2 (by rw [f]; rfl)).b, (h.s.off hs fun k f e2 => f.2.1 (by subst e2; rfl)).b, OwnPr.b (show OwnPr _ _ _ _ from by unfold OwnPr; simpa using h1)⟩, hs.mono fun k e => by omega⟩
/-- the pair's cells -/
theorem TalX.cellX {g n cap : Nat} (h : TalX w gb lim v1 v2 (.slice (some ⟨g, 0, none⟩) n cap) r) (j : Nat) (hj : j < r.x.length) :
    (∃ y, w.cell? ⟨g, j * 2, none⟩ = some (.int .i64 y) ∧ w.frozen? ⟨g, j * 2, none⟩ = false) ∧ ∃ z, w.cell? ⟨g, j * 2 + 1, none⟩ = some (.int .i64 z) ∧ w.frozen? ⟨g, j * 2 + 1, none⟩ = false := by
  have hl := flat_len r.x
  exact ⟨⟨_, OwnD.cell h.x (j * 2) (by omega)⟩, _, OwnD.cell h.x (j * 2 + 1) (by omega)⟩
end
end Go.Proofs.Ytpieaeokbblflaa
/- A task that is drawn; conditions: none. -/
namespace Go.Proofs.Ytpieaeokbblflaa
open Go.RowKit

theorem keptb {F : Nat → Prop} {w a b : World} (h : KeptOff F w a) (hb : Below w.heap.size a b) : KeptOff F w b :=
  ⟨hb.os.trans h.os, hb.tape.trans h.tape, hb.output.trans h.output, Nat.le_trans h.size hb.size, fun q hq hf => (hb.block q hq).trans (h.block q hq hf)⟩
theorem keptg {F G : Nat → Prop} {w a b : World} (h : KeptOff F w a) (hk : KeptOff G a b) (hG : ∀ q, G q → w.heap.size ≤ q) : KeptOff F w b :=
  ⟨hk.os.trans h.os, hk.tape.trans h.tape, hk.output.trans h.output, Nat.le_trans h.size hk.size, fun i hi hf => (hk.block i (Nat.lt_of_lt_of_le hi h.size) fun g => by have := hG i g; omega).trans (h.block i hi hf)⟩
/-- a table of the call's own -/
def TabO (w : World) (lo : Nat) (v : Value) (t : List (List Int)) : Prop := OwnR w lo (fun k => lo ≤ k ∧ k < w.heap.size) v t
theorem TabO.cur {w w' : World} {lo cg : Nat} {v : Value} {t : List (List Int)} (h : TabO w lo v t) (hk : KeptOff (fun k => k = cg) w w') (hc : cg < lo) : TabO w' lo v t :=
  (OwnR.off h hk fun g f e => by omega).mono (Nat.le_refl _) fun _ f => ⟨f.1, Nat.lt_of_lt_of_le f.2 hk.size⟩
theorem TabO.below {w w' : World} {lo : Nat} {v : Value} {t : List (List Int)} (h : TabO w lo v t) (hb : Below w.heap.size w w') : TabO w' lo v t :=
  (OwnR.below h hb).mono (Nat.le_refl _) fun _ f => ⟨f.1, Nat.lt_of_lt_of_le f.2 hb.size⟩
theorem TabO.grown {w w' : World} {lo lo2 : Nat} {v : Value} {t : List (List Int)} (h : TabO w lo v t) (hk : KeptOff (fun k => lo2 ≤ k) w w') (hl : w.heap.size ≤ lo2) : TabO w' lo v t :=
  (OwnR.off h hk fun g f e => by omega).mono (Nat.le_refl _) fun _ f => ⟨f.1, Nat.lt_of_lt_of_le f.2 hk.size⟩
/-- one number of a table -/
theorem TabO.put {w : World} {lo g n c : Nat} {t : List (List Int)} (h : TabO w lo (.slice (some ⟨g, 0, none⟩) n c) t) (k l M : Nat) (hk : k < t.length) (hM : t[k].length = M) (hl : l < M) :
    ∃ q d x, w.cell? ⟨g, k, none⟩ = some (.slice (some ⟨q, 0, none⟩) M d) ∧ (w.cell? ⟨q, l, none⟩ = some (.int .i64 x) ∧ w.frozen? ⟨q, l, none⟩ = false) ∧ lo ≤ q ∧
      ∀ y, TabO (w.setCell ⟨q, l, none⟩ (.int .i64 y)) lo (.slice (some ⟨g, 0, none⟩) n c) (t.set k (t[k].set l y)) ∧ KeptOff (fun k => k = q) w (w.setCell ⟨q, l, none⟩ (.int .i64 y)) := by
  obtain ⟨b, off, a', cap', e, hb, hcell, hi, hset⟩ := OwnR.row h k hk
  simp only [Option.some.injEq, Addr.mk.injEq, and_true] at e
  obtain ⟨rfl, rfl⟩ := e
  rw [Nat.zero_add, hM] at hcell
  rw [hM] at hi hset
  obtain ⟨q, d, e, hq⟩ := OwnI.form hi (by omega)
  rw [hM] at e
  injection e with e1 e2 e3
  subst e1 e3
  obtain ⟨c1, c2⟩ := OwnI.cell hi l (by omega)
  refine ⟨q, _, _, hcell, ⟨c1, c2⟩, hq, fun y => ?_⟩
  obtain ⟨s1, s2⟩ := OwnI.set hi l y
  obtain ⟨r1, -⟩ := hset _ _ s2 s1
  refine ⟨?_, keptOff_set w q l _⟩
  refine OwnR.mono r1 (Nat.le_refl _) fun j f => ?_
  simpa using f
/-- a row is another, that has grown out of it -/
theorem TabO.rowTo {w w' : World} {lo g n c k M d : Nat} {a : Option Addr} {t : List (List Int)} (h : TabO w lo (.slice (some ⟨g, 0, none⟩) n c) t) (hk : k < t.length) (hcell : w.cell? ⟨g, k, none⟩ = some (.slice a M d))
    {v' : Value} {ys : List Int} (hn : OwnI w' lo v' ys) (hg : w.grownBy w' (Value.slice a M d).ownBlock) :
    RowsB (w'.setCell ⟨g, k, none⟩ v') lo (.slice (some ⟨g, 0, none⟩) n c) (t.set k ys) ∧ w'.cell? ⟨g, k, none⟩ = some (.slice a M d) ∧ w'.frozen? ⟨g, k, none⟩ = false := by
  obtain ⟨vs, hs, hn2, hr, hdd, hf, hgg⟩ := h
  have hkv : k < vs.length := by omega
  obtain ⟨c1, c2⟩ := OwnS.cell hs k hkv
  rw [hcell] at c1
  have hvk : vs[k] = .slice a M d := (Option.some.inj c1).symm
  have hik := hr k hkv hk
  rw [hvk] at hik
  have hs' : OwnS w' lo 31 (.slice (some ⟨g, 0, none⟩) n c) vs := hs.kept fun b eb => hg.block b (hs.lt b eb).2 fun e => OwnS.apart hik hs (by decide) e.symm eb
  have hset := hs'.set k v'
  obtain ⟨d1, d2⟩ := OwnS.cell hs' k hkv
  rw [hvk] at d1
  have hk2 := keptOff_set w' g k v'
  refine ⟨⟨vs.set k v', hset.1.sl, by simp [hn2], fun i h1 h2 => ?_, fun b e => (hs.lt b e).1, fun i h1 b e => ?_⟩, d1, d2⟩
  · simp only [List.length_set] at h1 h2
    simp only [List.getElem_set]
    split
    · exact (OwnI.off hn hk2 fun b e e2 => OwnS.apart hn hs' (by decide) e (by rw [e2]; rfl)).ints
    · next e3 =>
      have hi := hr i h1 h2
      have hi' : OwnI w' lo vs[i] t[i] := hi.grown hg fun b eb e4 => hdd k i hkv h1 e3 b (by rw [hvk]; exact e4) eb
      exact (OwnI.off hi' hk2 fun b e e2 => OwnS.apart hi' hs' (by decide) e (by rw [e2]; rfl)).ints
  · simp only [List.length_set] at h1
    simp only [List.getElem_set] at e
    split at e
    · exact (OwnS.lt hn b e).1
    · exact (OwnS.lt (hr i h1 (by omega)) b e).1
def slLen : Value → Nat
  | .slice _ n _ => n
  | _ => 0
theorem rowsB_mono {w : World} {lo lo' : Nat} {v : Value} {xss : List (List Int)} (h : RowsB w lo v xss) (hl : lo' ≤ lo) : RowsB w lo' v xss := by
  obtain ⟨vs, hs, hn, hr, hv, hvs⟩ := h
  exact ⟨vs, hs, hn, hr, fun g e => Nat.le_trans hl (hv g e), fun i h1 g e => Nat.le_trans hl (hvs i h1 g e)⟩
set_option maxRecDepth 100000 in
set_option maxHeartbeats 8000000 in
theorem c_task (cg K : Nat) (w : World) (h : CurR w cg K) (hK : K < 1070000000) :
    Calls Try.prog 102 #[.pointer (some ⟨cg, 0, none⟩)] w fun e w' => ∃ v' t, e = .returned v' ∧ RowsB w' w.heap.size v' t ∧ CurR w' cg (K + 1000) ∧ KeptOff (fun k => k = cg) w w' := by
  have hg := h.lt
  have hA0 := (Below.refl w.heap.size w).alloc (Nat.le_refl _) (.cells #[] 31)
  obtain ⟨w0, hw0⟩ : ∃ z, z = w.alloc (.cells #[] 31) := ⟨_, rfl⟩
  have hT : TabO w0 w.heap.size (.slice (some ⟨w.heap.size, 0, none⟩) 0 0) [] := by rw [hw0]; exact (ownR_empty w w.heap.size (Nat.le_refl _)).isIn
  have hk0 : KeptOff (fun k => k = cg) w w0 := by rw [hw0]; exact kalloc _
  have hze : Hid (w0.heap.size = w.heap.size + 1) := Lib.hid (by rw [hw0]; simp)
  have hz0 : w.heap.size < w0.heap.size := by have := hze.out; omega
  rw [← hw0] at hA0
  have hc0 := h.below hA0
  have hA1 := (Below.refl w0.heap.size w0).alloc (Nat.le_refl _) (.cells #[.int .i64 3, .int .i64 2, .int .i64 4, .int .i64 3, .int .i64 1] 3)
  have hl1 := (own_lit w0 0 [3, 2, 4, 3, 1] #[.int .i64 3, .int .i64 2, .int .i64 4, .int .i64 3, .int .i64 1] rfl (Nat.zero_le _) (by simp)).ints
  go_enter Try.func102, Try.ntmps102
  go_wp2_with fail
  rw [← hw0]
  refine (c_among cg K _ [3, 2, 4, 3, 1] _ (hc0.below hA1) (by omega) (by rw [← hze.out]; exact hl1) (by simp) (by simp) (by intro b off n c e; simp at e; omega)).mono ?_
  rintro e w2 ⟨m, rfl, hm, hc2, hk2⟩
  obtain ⟨M, rfl, hM⟩ : ∃ M : Nat, m = (M : Int) ∧ 1 ≤ M ∧ M ≤ 4 := ⟨m.toNat, by simp at hm; omega, by simp at hm; omega, by simp at hm; omega⟩
  have hkk := (hk0.trans (kept0 hA1 |>.mono fun _ f => f.elim)).trans hk2
  replace hT := (hT.below hA1).cur hk2 (by omega)
  have hz2 : w.heap.size < w2.heap.size := Nat.lt_of_lt_of_le hz0 (Nat.le_trans hA1.size hk2.size)
  clear hm hA0 hA1 hl1 hc0 hk0 hk2 hw0 h hz0
  have hA1 := (Below.refl w2.heap.size w2).alloc (Nat.le_refl _) (.cells #[.int .i64 3, .int .i64 2, .int .i64 4, .int .i64 3, .int .i64 1] 3)
  have hl1 := (own_lit w2 0 [3, 2, 4, 3, 1] #[.int .i64 3, .int .i64 2, .int .i64 4, .int .i64 3, .int .i64 1] rfl (Nat.zero_le _) (by simp)).ints
  go_wp2_with fail
  refine (c_among cg _ _ [3, 2, 4, 3, 1] _ (hc2.below hA1) (by omega) hl1 (by simp) (by simp) (by intro b off n c e; simp at e; omega)).mono ?_
  rintro e w3 ⟨m, rfl, hm, hc3, hk3⟩
  obtain ⟨N, rfl, hN⟩ : ∃ N : Nat, m = (N : Int) ∧ 1 ≤ N ∧ N ≤ 4 := ⟨m.toNat, by simp at hm; omega, by simp at hm; omega, by simp at hm; omega⟩
  replace hkk := (hkk.trans (kept0 hA1 |>.mono fun _ f => f.elim)).trans hk3
  replace hT := (hT.below hA1).cur hk3 (by omega)
  clear hm hA1 hl1 hc2 hk3 hz2
  go_upto_region 3 with fail
  go_loopw [3, 5] (fun o i wr => ∃ (q : Nat) (t : List (List Int)), q ≤ N ∧ i = .int .i64 q ∧ TabO wr w.heap.size o t ∧ Hid (t.length = N - q ∧ ∀ r ∈ t, r.length = M) ∧ CurR wr cg (K + 10 + 20 * (4 - q)) ∧ KeptOff (fun k => k = cg) w wr) (fun _ i _ => (intOf i).toNat)
  case atStart => exact ⟨N, [], Nat.le_refl _, rfl, hT, Lib.hid ⟨by simp, by simp⟩, hc3.more (by omega), hkk⟩
  case round =>
    clear hT hc3 hkk
    obtain ⟨q, t, hq, rfl, hT, hsh, hc, hkk⟩ := hrel
    obtain ⟨ao, ko, rfl, -⟩ := (OwnR.rows hT).out
    have hsz := hkk.size
    by_cases hq0 : 0 < q
    · have hd3 : decide ((q : Int) > 0) = true := by simp; omega
      obtain ⟨wo, rfl⟩ : ∃ wo : World, wo = wr := ⟨_, rfl⟩
      have hAe := (Below.refl wo.heap.size wo).alloc (Nat.le_refl _) (.cells #[] 3)
      have hO := own_empty wo wo.heap.size (Nat.le_refl _)
      go_upto_region 7 with fail
      go_loopw [6, 7] (fun r j wr => ∃ (l : Nat) (ys : List Int), l ≤ M ∧ j = .int .i64 l ∧ OwnI wr wo.heap.size r ys ∧ Hid (ys.length = l) ∧ CurR wr cg (K + 10 + 20 * (4 - q) + 2 * l) ∧ KeptOff (fun k => k = cg) wo wr) (fun _ j _ => M - (intOf j).toNat)
      case atStart => exact ⟨0, [], Nat.zero_le _, rfl, hO, Lib.hid rfl, hc.below hAe, kalloc _⟩
      case round =>
        clear hO hAe hc
        obtain ⟨l, ys, hl, rfl, hO, hyl, hcr, hko⟩ := hrel
        have hzo := hko.size
        by_cases hlM : l < M
        · have hd4 : decide ((l : Int) < (M : Int)) = true := by simp; omega
          obtain ⟨wp, rfl⟩ : ∃ wp : World, wp = wr := ⟨_, rfl⟩
          go_wp2_with fail
          refine (c_pick cg _ 2 _ hcr (by omega) (by omega)).mono ?_
          rintro e w5 ⟨x, rfl, hx, hc5, hk5⟩
          have hO5 : OwnI w5 wo.heap.size _ ys := own_off (show cg < wo.heap.size by omega) hO hk5
          have hk6 := hko.trans hk5
          have hz5 := hk6.size
          have hyl2 : ys.length < 1099511627776 := by have := hyl.out; omega
          clear hO hko hk5 hcr
          go_wp2_with (at_builtin; refine wp_append_int _ _ rfl _ _ rfl wo.heap.size _ ys rfl hO5 rfl (by first | rfl | simp) hyl2 (by omega) ?_; intro v' w6 hn6 hg6 hB6 _)
          have hc6 : CurR w6 cg _ := hc5.off (keptOfB hB6 hB6.size) fun q hq => by omega
          have hk7 := keptb hk6 hB6
          have hl6 : Hid ((ys ++ [(x : Int)]).length = l + 1) := Lib.hid (by have := hyl.out; simp; omega)
          go_roundw
          case rel => first | exact ⟨l + 1, _, by omega, by go_num, hn6, hl6, hc6.more (by omega), hk7⟩ | ((repeat apply Exists.intro); exact ⟨⟨l + 1, _, by omega, rfl, hn6, hl6, hc6.more (by omega), hk7⟩, rfl⟩)
          case measure => simp [intOf]; omega
        · obtain rfl : l = M := by omega
          have hd4 : decide ((l : Int) < (l : Int)) = false := by simp
          obtain ⟨wp, rfl⟩ : ∃ wp : World, wp = wr := ⟨_, rfl⟩
          obtain ⟨ar, kr, rfl, -⟩ := hO.ints.out
          have hRA : OwnR wp w.heap.size (fun k => w.heap.size ≤ k ∧ k < wo.heap.size) (.slice ao t.length ko) t := (OwnR.off hT hko fun g f e => by omega)
          have hkA := hkk.trans hko
          have hlen : t.length < 1099511627776 := by have := hsh.out.1; omega
          have hdis : ∀ g, (Value.slice ar ys.length kr).ownBlock = some g → ¬ (w.heap.size ≤ g ∧ g < wo.heap.size) := fun g e f => by have := OwnS.lt hO g e; omega
          clear hT hkk
          go_wp2_with (at_builtin; refine wp_append_row _ (.slice ar ys.length kr) rfl _ _ rfl w.heap.size _ _ t rfl hRA ys (hO.mono (by omega)) hdis rfl (by first | rfl | simp) hlen (by omega) ?_; intro v5 w5 hn5 hg5 hB5 _)
          have hc5 : CurR w5 cg _ := hcr.off (keptOfB hB5 hB5.size) fun q hq => by omega
          have hk5 := keptb hkA hB5
          have hsh5 : Hid ((t ++ [ys]).length = N - (q - 1) ∧ ∀ r ∈ t ++ [ys], r.length = l) := Lib.hid ⟨by have := hsh.out.1; simp; omega, fun r hr => (List.mem_append.1 hr).elim (hsh.out.2 r) fun e => by rw [List.mem_singleton.1 e]; exact hyl.out⟩
          go_roundw
          case rel => first | exact ⟨q - 1, _, by omega, by first | go_num | exact congrArg (Value.int .i64) (by omega), hn5, hsh5, hc5.more (by omega), hk5⟩ | ((repeat apply Exists.intro); exact ⟨⟨q - 1, _, by omega, rfl, hn5, hsh5, hc5.more (by omega), hk5⟩, rfl⟩)
          case measure => simp [intOf]; omega
    · obtain rfl : q = 0 := by omega
      have hd3 : decide (((0 : Nat) : Int) > 0) = false := by simp
      obtain ⟨wo, rfl⟩ : ∃ wo : World, wo = wr := ⟨_, rfl⟩
      obtain ⟨g, c, e, hg0⟩ := OwnR.form hT (by have := hsh.out.1; omega)
      have htn : t.length = N := hsh.out.1
      rw [htn] at e hT ⊢
      injection e with e1 e2 e3
      subst e1 e3
      replace hsh : Hid (t.length = N ∧ ∀ r ∈ t, r.length = M) := Lib.hid ⟨htn, hsh.out.2⟩
      clear htn e2
      go_wp2_with fail
      refine (c_one cg _ 3 _ hc (by omega) (by omega)).mono ?_
      rintro e w4 ⟨b3, rfl, hc4, hk4⟩
      replace hT := hT.cur hk4 hg
      replace hkk := hkk.trans hk4
      have hc := hc4.more (show _ ≤ K + 100 by omega)
      clear hk4 hc4 hsz
      cases b3
      case false =>
        go_wp2_with fail
        refine (c_pick cg _ 40 _ hc (by omega) (by omega)).mono ?_
        rintro e w8 ⟨q8, rfl, -, hc8, hk8⟩
        replace hT := hT.cur hk8 hg
        replace hkk := hkk.trans hk8
        clear hk8 hc
        have hz8 := hkk.size
        have htl : 0 < t.length := by rw [hsh.out.1]; omega
        by_cases hq0 : q8 = 0
        · subst hq0
          have htk : t[0].length = M := hsh.out.2 _ (List.getElem_mem htl)
          obtain ⟨q, d, x, z0, -, hq1, -⟩ := hT.put 0 0 M htl htk (by omega)
          replace htk := Lib.hid htk
          have hM0 : 0 < M := by omega
          go_upto_region 23 with fail
          refine wp_region_cur (by kernel_rfl) [none, none, none, none, none, none, none, none, none, none, none, none, none, none, none, none, none, none, none, none, none, none, none, none, none, none, none, none, none, none, none, none, none, none, none, none, none, none, none, none, none, none, none, none, none, none, none, none, none, none, none, none, none, none, none, none, none, none, none, none, none, none, none, none, none, none, none, none, none, none, none, none, some 0, some 1, some 2, some 3, some 4, some 5, some 6] 6 (by kernel_rfl) (by kernel_rfl) (by kernel_rfl) (by simp) _ rfl cg (K + 100 + 2) hc8 (by omega) [dkV cg (.slice (some ⟨g, 0, none⟩) N ko), dkV cg (.pointer (some ⟨g, 0, none⟩)), dkV cg (.slice (some ⟨q, 0, none⟩) M d), dkV cg (.pointer (some ⟨cg, 0, none⟩)), dkL cg (w.heap.size) (by omega) (fun xs => xs = [2, -1]), dkN cg (fun x => x ∈ ([2, -1] : List Int))] ?_ ?_
          · intro i o ho hi u ww Kn hk hc hKn hd
            have y_z0 := kcell hk z0 (by omega)
            have hsz := hk.size
            rcases i with _ | _ | _ | _ | _ | _ | _ | _ | i
            all_goals try obtain rfl := Option.some.inj ho
            all_goals try simp only [putAll, fillL, List.getElem_toArray, List.getElem_cons_succ, List.getElem_cons_zero]
            · go_wp2
              exact ⟨_, rfl, KeptOff.refl _ _, hc.more (by omega), rfl⟩
            · have e0 : u 0 = .slice (some ⟨g, 0, none⟩) N ko := hd 0 (by decide)
              rw [e0]
              go_wp2
              exact ⟨_, by simp only [putAll, fillL, e0] <;> rfl, KeptOff.refl _ _, hc.more (by omega), rfl⟩
            · have e1 : u 1 = .pointer (some ⟨g, 0, none⟩) := hd 1 (by decide)
              rw [e1]
              go_wp2
              exact ⟨_, by simp only [putAll, fillL, e1] <;> rfl, KeptOff.refl _ _, hc.more (by omega), rfl⟩
            · go_wp2
              exact ⟨_, rfl, KeptOff.refl _ _, hc.more (by omega), rfl⟩
            · go_wp2
              exact ⟨_, rfl, kalloc _, (hc.below ((Below.refl _ _).alloc (Nat.le_refl _) _)).more (by omega), ⟨[2, -1], rfl, own_lit ww (w.heap.size) [2, -1] _ (by rfl) (by omega) (by simp)⟩⟩
            · have e3 : u 3 = .pointer (some ⟨cg, 0, none⟩) := hd 3 (by decide)
              rw [e3]
              obtain ⟨xs4, n4, o4⟩ : ∃ xs, _ ∧ OwnI ww (w.heap.size) (u 4) xs := hd 4 (by decide)
              obtain ⟨p4, c4, e4, -⟩ := o4.ints.out
              try subst n4
              rw [e4] at o4
              try rw [e4]
              go_wp2_with fail
              refine (c_among cg _ _ ([2, -1]) _ hc (by omega) o4.ints (by simp) (by simp) (by intro b off n c e; cases e; have := (OwnS.lt o4 b rfl).1; omega)).mono ?_
              rintro e wn ⟨x, rfl, hx, hcn, hkn⟩
              go_wp2
              exact ⟨_, by simp only [putAll, fillL, e3, e4] <;> rfl, hkn, hcn, ⟨_, rfl, hx⟩⟩
            · omega
            · omega
            · simp at ho
          · intro u ww hk hc2 hV
            have hsz := hk.size
            have y_z0 := kcell hk z0 (by omega)
            simp only [putAll, fillL]
            have e0 : u 0 = .slice (some ⟨g, 0, none⟩) N ko := hV 0 (by decide)
            try rw [e0]
            have e1 : u 1 = .pointer (some ⟨g, 0, none⟩) := hV 1 (by decide)
            try rw [e1]
            have e2 : u 2 = .slice (some ⟨q, 0, none⟩) M d := hV 2 (by decide)
            rw [e2]
            have e3 : u 3 = .pointer (some ⟨cg, 0, none⟩) := hV 3 (by decide)
            try rw [e3]
            obtain ⟨xs4, n4, o4⟩ : ∃ xs, _ ∧ OwnI ww (w.heap.size) (u 4) xs := hV 4 (by decide)
            obtain ⟨p4, c4, e4, -⟩ := o4.ints.out
            try subst n4
            rw [e4] at o4
            try rw [e4]
            obtain ⟨x5, e5, n5⟩ : ∃ x, u 5 = .int .i64 x ∧ _ := hV 5 (by decide)
            rw [e5]
            clear hV
            try simp only [List.getElem_toArray, List.getElem_cons_succ, List.getElem_cons_zero]
            change wpList _ _ _ [_, _] _ _
            have hTw := hT.cur hk hg
            obtain ⟨q', d', x', y0, ⟨y1, y2⟩, hq1', hput⟩ := hTw.put 0 0 M htl htk.out (by omega)
            rw [y_z0] at y0
            simp only [Option.some.injEq, Value.slice.injEq, Addr.mk.injEq, and_true, true_and] at y0
            obtain ⟨rfl, rfl⟩ := y0
            obtain ⟨hT1, hk1⟩ := hput x5
            have hcf := hc2.off hk1 fun j e => by omega
            have hkf := keptg (hkk.trans hk) hk1 fun j e => by omega
            have hR := OwnR.b hT1
            clear hT1 hk1 hput hTw hk hc2 hT hkk hc8 e0 e1 e2 e3 e4 e5 z0 y_z0 hsh htk
            go_wp2
            go_ret
            exact ⟨_, _, rfl, hR, hcf.more (by omega), hkf⟩
        have hq0' : ((q8 : Int) == 0) = false := by simp; omega
        by_cases hq1 : q8 = 1
        · subst hq1
          obtain ⟨b, off, a', cap', e, hb, hcell, hi, -⟩ := OwnR.row hT 0 htl
          simp only [Option.some.injEq, Addr.mk.injEq, and_true] at e
          obtain ⟨rfl, rfl⟩ := e
          rw [Nat.zero_add] at hcell
          have htk : t[0].length = M := hsh.out.2 _ (List.getElem_mem htl)
          have hlen : t[0].length < 1099511627776 := by omega
          obtain ⟨r0, hr0⟩ : ∃ z, z = t[0] := ⟨_, rfl⟩
          have hrow := fun (w5 : World) (v5 : Value) (ys : List Int) (h1 : OwnI w5 w.heap.size v5 ys) (h2 : w8.grownBy w5 (Value.slice a' t[0].length cap').ownBlock) => hT.rowTo htl hcell h1 h2
          rw [← hr0] at hi hlen htk
          simp only [← hr0] at hcell hrow
          obtain ⟨l0, hl0⟩ : ∃ z, z = r0.length := ⟨_, rfl⟩
          rw [← hl0] at hcell hi
          simp only [← hl0] at hrow
          replace hl0 := Lib.hid hl0
          clear hr0
          replace htk := Lib.hid htk
          replace hlen := Lib.hid hlen
          replace hrow := Lib.hid hrow
          go_upto_region 31 with (at_builtin; refine wp_append_int _ 1 rfl _ _ rfl w.heap.size _ r0 rfl hi rfl (by first | rfl | simp) hlen.out (by have := hkk.size; omega) ?_; intro v5 w5 hn5 hg5 hB5 _; obtain ⟨a5, k5, rfl, -⟩ := hn5.ints.out; obtain ⟨n5, hl5⟩ : ∃ z, z = (r0 ++ [1]).length := ⟨_, rfl⟩; rw [← hl5] at hn5 ⊢; replace hl5 := Lib.hid hl5; obtain ⟨hR, y0, y1⟩ := hrow.out w5 _ _ hn5 hg5; replace hR := Lib.hid hR; replace hB5 := Lib.hid hB5; clear hn5 hg5)
          have hkf := keptg (keptb hkk hB5.out) (keptOff_set w5 g 0 (.slice a5 n5 k5)) fun j e => by omega
          have hcf := (hc8.off (keptOfB hB5.out hB5.out.size) fun j e => by omega : CurR w5 cg _).off (keptOff_set w5 g 0 (.slice a5 n5 k5)) fun j e => by omega
          go_wp2
          go_ret
          exact ⟨_, _, rfl, hR.out, hcf.more (by omega), hkf⟩
        have hq1' : ((q8 : Int) == 1) = false := by simp; omega
        by_cases hq2 : q8 = 2
        · subst hq2
          go_upto_region 27 with fail
          go_loopw [3] (fun o wr => ∃ t, TabO wr w.heap.size o t ∧ Hid (t.length ≤ 5) ∧ CurR wr cg (K + 100 + 2) ∧ KeptOff (fun k => k = cg) w wr) (fun o _ => 5 - slLen o)
          case atStart => exact ⟨t, hT, Lib.hid (by rw [hsh.out.1]; omega), hc8, hkk⟩
          case round =>
            clear hT hkk hc8 hsh htl
            obtain ⟨t, hT, hsh, hc, hkk⟩ := hrel
            obtain ⟨ao, kz, rfl, -⟩ := (OwnR.rows hT).out
            obtain ⟨n, hn⟩ : ∃ z, z = t.length := ⟨_, rfl⟩
            have hn5 : n ≤ 5 := by rw [hn]; exact hsh.out
            rw [← hn] at hT ⊢
            replace hn := Lib.hid hn
            obtain ⟨wp, rfl⟩ : ∃ wp : World, wp = wr := ⟨_, rfl⟩
            have hsz := hkk.size
            clear hz8
            by_cases hlt : n < 5
            · have hd7 : decide ((n : Int) < 5) = true := by simp; omega
              have hlen : Hid (t.length < 1099511627776) := Lib.hid (by have := hn.out; omega)
              go_wp2_with (first | (at_make; refine wp_make_int _ rfl _ _ rfl M rfl rfl (by omega) ?_; intro w5 h51 h52 h53; have hTm := OwnR.below hT h52; have hdm : Hid (∀ q, (Value.slice (some ⟨wp.heap.size, 0, none⟩) M M).ownBlock = some q → ¬ (w.heap.size ≤ q ∧ q < wp.heap.size)) := Lib.hid (fun q e f => by have := OwnS.lt h51 q e; omega); have hom := OwnI.mono h51 hsz; have hsm := h52.size) | (at_builtin; refine wp_append_row _ (.slice (some ⟨wp.heap.size, 0, none⟩) M M) rfl _ _ rfl w.heap.size _ _ t rfl hTm _ hom hdm.out rfl (by first | rfl | simp) hlen.out (by omega) ?_; intro v6 w6 hn6 hg6 hB6 _))
              have hc6 : CurR w6 cg _ := (hc.below h52).off (keptOfB hB6 hB6.size) fun j e => by omega
              have hk6 := keptb (hkk.trans (kept0 h52 |>.mono (G := fun k => k = cg) fun _ f => f.elim)) hB6
              have hl6 : Hid ((t ++ [List.replicate M 0]).length ≤ 5) := Lib.hid (by have := hn.out; simp; omega)
              obtain ⟨a6, k6, e6, -⟩ := (OwnR.rows hn6).out
              have hs6 : slLen v6 = n + 1 := by rw [e6, hn.out]; simp [slLen]
              clear e6
              go_roundw
              case rel => first | exact ⟨_, hn6, hl6, hc6, hk6⟩ | ((repeat apply Exists.intro); exact ⟨⟨_, hn6, hl6, hc6, hk6⟩, rfl⟩)
              case measure =>
                simp only [hs6]
                show 5 - (n + 1) < 5 - n
                omega
            · obtain rfl : n = 5 := by omega
              have hd7 : decide (((5 : Nat) : Int) < 5) = false := by simp
              have hR := OwnR.b hT
              go_wp2
              go_ret
              exact ⟨_, _, rfl, hR, hc.more (by omega), hkk⟩
        have hq2' : ((q8 : Int) == 2) = false := by simp; omega
        by_cases hq3 : q8 = 3
        · subst hq3
          have hRe := ((OwnR.b (ownR_empty w8 w8.heap.size (Nat.le_refl _))) : RowsB _ w8.heap.size _ [])
          have hAe := (Below.refl w8.heap.size w8).alloc (Nat.le_refl _) (.cells #[] 31)
          have hkf := hkk.trans (kalloc (F := fun k => k = cg) (w := w8) (.cells #[] 31))
          have hcf := hc8.below hAe
          have hsz := hkk.size
          go_wp2
          go_ret
          exact ⟨_, _, rfl, rowsB_mono hRe hsz, hcf.more (by omega), hkf⟩
        have hq3' : ((q8 : Int) == 3) = false := by simp; omega
        have hR := OwnR.b hT
        go_wp2
        go_ret
        exact ⟨_, _, rfl, hR, hc8.more (by omega), hkk⟩
      case true =>
        go_upto_region 13 with fail
        go_loopw [8] (fun i wr => ∃ (k : Nat) (t : List (List Int)), k ≤ N ∧ i = .int .i64 k ∧ TabO wr w.heap.size (.slice (some ⟨g, 0, none⟩) N ko) t ∧ Hid (t.length = N ∧ ∀ r ∈ t, r.length = M) ∧ CurR wr cg (K + 100 + 20 * k) ∧ KeptOff (fun k => k = cg) w wr) (fun i _ => N - (intOf i).toNat)
        case atStart => exact ⟨0, t, Nat.zero_le _, rfl, hT, hsh, hc, hkk⟩
        case round =>
          clear hT hkk hc hsh
          obtain ⟨k, t, hk, rfl, hT, hsh, hc, hkk⟩ := hrel
          by_cases hkN : k < N
          · have hd5 : decide ((k : Int) < (N : Int)) = true := by simp; omega
            go_upto_region 16 with fail
            go_loopw [9] (fun j wr => ∃ (l : Nat) (t : List (List Int)), l ≤ M ∧ j = .int .i64 l ∧ TabO wr w.heap.size (.slice (some ⟨g, 0, none⟩) N ko) t ∧ Hid (t.length = N ∧ ∀ r ∈ t, r.length = M) ∧ CurR wr cg (K + 100 + 20 * k + 2 * l) ∧ KeptOff (fun k => k = cg) w wr) (fun j _ => M - (intOf j).toNat)
            case atStart => exact ⟨0, t, Nat.zero_le _, rfl, hT, hsh, hc, hkk⟩
            case round =>
              clear hT hkk hc hsh
              obtain ⟨l, t, hl, rfl, hT, hsh, hc, hkk⟩ := hrel
              by_cases hlM : l < M
              · have hd6 : decide ((l : Int) < (M : Int)) = true := by simp; omega
                obtain ⟨wp, rfl⟩ : ∃ wp : World, wp = wr := ⟨_, rfl⟩
                have hktl : k < t.length := by rw [hsh.out.1]; exact hkN
                have htk : t[k].length = M := hsh.out.2 _ (List.getElem_mem hktl)
                obtain ⟨q, d, x, z0, ⟨z1, z2⟩, hq1, hput⟩ := hT.put k l M hktl htk hlM
                obtain ⟨hT1, hk1⟩ := hput 0
                obtain ⟨t1, ht1⟩ : ∃ z, z = t.set k (t[k].set l 0) := ⟨_, rfl⟩
                have hsh1 : Hid (t1.length = N ∧ ∀ r ∈ t1, r.length = M) := Lib.hid (by
                  rw [ht1]
                  exact ⟨by rw [List.length_set]; exact hsh.out.1, fun r hr => by
                    rcases List.mem_or_eq_of_mem_set hr with e | e
                    · exact hsh.out.2 r e
                    · rw [e, List.length_set]; exact htk⟩)
                rw [← ht1] at hT1
                have hc1 := hc.off hk1 fun j e => by omega
                have hkk1 := keptg hkk hk1 fun j e => by omega
                clear hT hc hkk hk1 hput ht1 hsh htk hktl
                go_upto_region 19 with fail
                obtain ⟨w5, hw5⟩ : ∃ z, z = wp.setCell ⟨q, l, none⟩ (.int .i64 0) := ⟨_, rfl⟩
                rw [← hw5] at hT1 hc1 hkk1 ⊢
                clear hw5 z0 z1 z2
                have hone : ∀ (W : World) (hT1 : TabO W w.heap.size (.slice (some ⟨g, 0, none⟩) N ko) t1), ∃ q d x, W.cell? ⟨g, k, none⟩ = some (.slice (some ⟨q, 0, none⟩) M d) ∧ (W.cell? ⟨q, l, none⟩ = some (.int .i64 x) ∧ W.frozen? ⟨q, l, none⟩ = false) ∧ w.heap.size ≤ q ∧
                    ∃ t2, TabO (W.setCell ⟨q, l, none⟩ (.int .i64 1)) w.heap.size (.slice (some ⟨g, 0, none⟩) N ko) t2 ∧ Hid (t2.length = N ∧ ∀ r ∈ t2, r.length = M) ∧ KeptOff (fun k => k = q) W (W.setCell ⟨q, l, none⟩ (.int .i64 1)) := by
                  intro W hT1
                  have hktl : k < t1.length := by rw [hsh1.out.1]; exact hkN
                  have htk : t1[k].length = M := hsh1.out.2 _ (List.getElem_mem hktl)
                  obtain ⟨q, d, x, z0, z1, hq1, hput⟩ := hT1.put k l M hktl htk hlM
                  obtain ⟨hT2, hk2⟩ := hput 1
                  exact ⟨q, d, x, z0, z1, hq1, _, hT2, Lib.hid ⟨by rw [List.length_set]; exact hsh1.out.1, fun r hr => by
                    rcases List.mem_or_eq_of_mem_set hr with e | e
                    · exact hsh1.out.2 r e
                    · rw [e, List.length_set]; exact htk⟩, hk2⟩
                replace hone := Lib.hid hone
                by_cases hkl : k = l
                · have hb6 : ((k : Int) == (l : Int)) = true := by simp [hkl]
                  replace hkl := Lib.hid hkl
                  obtain ⟨q9, d9, x9, z0, ⟨z1, z2⟩, hq9, t2, hT2, hsh2, hk2⟩ := hone.out w5 hT1
                  have hc2 := CurR.off hc1 hk2 fun j e => by omega
                  have hkk2 := keptg hkk1 hk2 fun j e => by omega
                  clear hone hT1 hc1 hkk1 hk2
                  go_upto_region 17 with fail
                  obtain ⟨w6, hw6⟩ : ∃ z, z = (w5).setCell ⟨q9, l, none⟩ (.int .i64 1) := ⟨_, rfl⟩
                  rw [← hw6] at hT2 hc2 hkk2 ⊢
                  clear hw6 z0 z1 z2
                  go_wp2
                  go_roundw
                  case rel => exact ⟨l + 1, t2, by omega, by go_num, hT2, hsh2, hc2.more (by omega), hkk2⟩
                  case measure => simp [intOf]; omega
                · have hb6 : ((k : Int) == (l : Int)) = false := by simp; omega
                  go_wp2_with fail
                  refine (c_one cg _ 12 _ hc1 (by omega) (by omega)).mono ?_
                  rintro e w7 ⟨b7, rfl, hc7, hk7⟩
                  have hT7 := hT1.cur hk7 hg
                  have hkk7 := hkk1.trans hk7
                  clear hT1 hc1 hkk1 hk7
                  cases b7
                  · go_wp2
                    go_roundw
                    case rel => exact ⟨l + 1, t1, by omega, by go_num, hT7, hsh1, hc7.more (by omega), hkk7⟩
                    case measure => simp [intOf]; omega
                  · skip
                    obtain ⟨q9, d9, x9, z0, ⟨z1, z2⟩, hq9, t2, hT2, hsh2, hk2⟩ := hone.out w7 hT7
                    have hc2 := CurR.off hc7 hk2 fun j e => by omega
                    have hkk2 := keptg hkk7 hk2 fun j e => by omega
                    clear hone hT7 hc7 hkk7 hk2
                    go_upto_region 17 with fail
                    obtain ⟨w6, hw6⟩ : ∃ z, z = (w7).setCell ⟨q9, l, none⟩ (.int .i64 1) := ⟨_, rfl⟩
                    rw [← hw6] at hT2 hc2 hkk2 ⊢
                    clear hw6 z0 z1 z2
                    go_wp2
                    go_roundw
                    case rel => exact ⟨l + 1, t2, by omega, by go_num, hT2, hsh2, hc2.more (by omega), hkk2⟩
                    case measure => simp [intOf]; omega
              · obtain rfl : l = M := by omega
                have hd6 : decide ((l : Int) < (l : Int)) = false := by simp
                go_wp2
                go_roundw
                case rel => exact ⟨k + 1, t, by omega, by go_num, hT, hsh, hc.more (by omega), hkk⟩
                case measure => simp [intOf]; omega
          · obtain rfl : k = N := by omega
            have hd5 : decide ((k : Int) < (k : Int)) = false := by simp
            obtain ⟨wp, rfl⟩ : ∃ wp : World, wp = wr := ⟨_, rfl⟩
            replace hc := hc.more (show _ ≤ K + 300 by omega)
            go_wp2_with fail
            refine (c_pick cg _ 40 _ hc (by omega) (by omega)).mono ?_
            rintro e w8 ⟨q8, rfl, -, hc8, hk8⟩
            replace hT := hT.cur hk8 hg
            replace hkk := hkk.trans hk8
            clear hk8 hc
            have hz8 := hkk.size
            have htl : 0 < t.length := by rw [hsh.out.1]; omega
            by_cases hq0 : q8 = 0
            · subst hq0
              have htk : t[0].length = M := hsh.out.2 _ (List.getElem_mem htl)
              obtain ⟨q, d, x, z0, -, hq1, -⟩ := hT.put 0 0 M htl htk (by omega)
              replace htk := Lib.hid htk
              have hM0 : 0 < M := by omega
              go_upto_region 23 with fail
              refine wp_region_cur (by kernel_rfl) [none, none, none, none, none, none, none, none, none, none, none, none, none, none, none, none, none, none, none, none, none, none, none, none, none, none, none, none, none, none, none, none, none, none, none, none, none, none, none, none, none, none, none, none, none, none, none, none, none, none, none, none, none, none, none, none, none, none, none, none, none, none, none, none, none, none, none, none, none, none, none, none, some 0, some 1, some 2, some 3, some 4, some 5, some 6] 6 (by kernel_rfl) (by kernel_rfl) (by kernel_rfl) (by simp) _ rfl cg (K + 300 + 2) hc8 (by omega) [dkV cg (.slice (some ⟨g, 0, none⟩) k ko), dkV cg (.pointer (some ⟨g, 0, none⟩)), dkV cg (.slice (some ⟨q, 0, none⟩) M d), dkV cg (.pointer (some ⟨cg, 0, none⟩)), dkL cg (w.heap.size) (by omega) (fun xs => xs = [2, -1]), dkN cg (fun x => x ∈ ([2, -1] : List Int))] ?_ ?_
              · intro i o ho hi u ww Kn hk hc hKn hd
                have y_z0 := kcell hk z0 (by omega)
                have hsz := hk.size
                rcases i with _ | _ | _ | _ | _ | _ | _ | _ | i
                all_goals try obtain rfl := Option.some.inj ho
                all_goals try simp only [putAll, fillL, List.getElem_toArray, List.getElem_cons_succ, List.getElem_cons_zero]
                · go_wp2
                  exact ⟨_, rfl, KeptOff.refl _ _, hc.more (by omega), rfl⟩
                · have e0 : u 0 = .slice (some ⟨g, 0, none⟩) k ko := hd 0 (by decide)
                  rw [e0]
                  go_wp2
                  exact ⟨_, by simp only [putAll, fillL, e0] <;> rfl, KeptOff.refl _ _, hc.more (by omega), rfl⟩
                · have e1 : u 1 = .pointer (some ⟨g, 0, none⟩) := hd 1 (by decide)
                  rw [e1]
                  go_wp2
                  exact ⟨_, by simp only [putAll, fillL, e1] <;> rfl, KeptOff.refl _ _, hc.more (by omega), rfl⟩
                · go_wp2
                  exact ⟨_, rfl, KeptOff.refl _ _, hc.more (by omega), rfl⟩
                · go_wp2
                  exact ⟨_, rfl, kalloc _, (hc.below ((Below.refl _ _).alloc (Nat.le_refl _) _)).more (by omega), ⟨[2, -1], rfl, own_lit ww (w.heap.size) [2, -1] _ (by rfl) (by omega) (by simp)⟩⟩
                · have e3 : u 3 = .pointer (some ⟨cg, 0, none⟩) := hd 3 (by decide)
                  rw [e3]
                  obtain ⟨xs4, n4, o4⟩ : ∃ xs, _ ∧ OwnI ww (w.heap.size) (u 4) xs := hd 4 (by decide)
                  obtain ⟨p4, c4, e4, -⟩ := o4.ints.out
                  try subst n4
                  rw [e4] at o4
                  try rw [e4]
                  go_wp2_with fail
                  refine (c_among cg _ _ ([2, -1]) _ hc (by omega) o4.ints (by simp) (by simp) (by intro b off n c e; cases e; have := (OwnS.lt o4 b rfl).1; omega)).mono ?_
                  rintro e wn ⟨x, rfl, hx, hcn, hkn⟩
                  go_wp2
                  exact ⟨_, by simp only [putAll, fillL, e3, e4] <;> rfl, hkn, hcn, ⟨_, rfl, hx⟩⟩
                · omega
                · omega
                · simp at ho
              · intro u ww hk hc2 hV
                have hsz := hk.size
                have y_z0 := kcell hk z0 (by omega)
                simp only [putAll, fillL]
                have e0 : u 0 = .slice (some ⟨g, 0, none⟩) k ko := hV 0 (by decide)
                try rw [e0]
                have e1 : u 1 = .pointer (some ⟨g, 0, none⟩) := hV 1 (by decide)
                try rw [e1]
                have e2 : u 2 = .slice (some ⟨q, 0, none⟩) M d := hV 2 (by decide)
                rw [e2]
                have e3 : u 3 = .pointer (some ⟨cg, 0, none⟩) := hV 3 (by decide)
                try rw [e3]
                obtain ⟨xs4, n4, o4⟩ : ∃ xs, _ ∧ OwnI ww (w.heap.size) (u 4) xs := hV 4 (by decide)
                obtain ⟨p4, c4, e4, -⟩ := o4.ints.out
                try subst n4
                rw [e4] at o4
                try rw [e4]
                obtain ⟨x5, e5, n5⟩ : ∃ x, u 5 = .int .i64 x ∧ _ := hV 5 (by decide)
                rw [e5]
                clear hV
                try simp only [List.getElem_toArray, List.getElem_cons_succ, List.getElem_cons_zero]
                change wpList _ _ _ [_, _] _ _
                have hTw := hT.cur hk hg
                obtain ⟨q', d', x', y0, ⟨y1, y2⟩, hq1', hput⟩ := hTw.put 0 0 M htl htk.out (by omega)
                rw [y_z0] at y0
                simp only [Option.some.injEq, Value.slice.injEq, Addr.mk.injEq, and_true, true_and] at y0
                obtain ⟨rfl, rfl⟩ := y0
                obtain ⟨hT1, hk1⟩ := hput x5
                have hcf := hc2.off hk1 fun j e => by omega
                have hkf := keptg (hkk.trans hk) hk1 fun j e => by omega
                have hR := OwnR.b hT1
                clear hT1 hk1 hput hTw hk hc2 hT hkk hc8 e0 e1 e2 e3 e4 e5 z0 y_z0 hsh htk
                go_wp2
                go_ret
                exact ⟨_, _, rfl, hR, hcf.more (by omega), hkf⟩
            have hq0' : ((q8 : Int) == 0) = false := by simp; omega
            by_cases hq1 : q8 = 1
            · subst hq1
              obtain ⟨b, off, a', cap', e, hb, hcell, hi, -⟩ := OwnR.row hT 0 htl
              simp only [Option.some.injEq, Addr.mk.injEq, and_true] at e
              obtain ⟨rfl, rfl⟩ := e
              rw [Nat.zero_add] at hcell
              have htk : t[0].length = M := hsh.out.2 _ (List.getElem_mem htl)
              have hlen : t[0].length < 1099511627776 := by omega
              obtain ⟨r0, hr0⟩ : ∃ z, z = t[0] := ⟨_, rfl⟩
              have hrow := fun (w5 : World) (v5 : Value) (ys : List Int) (h1 : OwnI w5 w.heap.size v5 ys) (h2 : w8.grownBy w5 (Value.slice a' t[0].length cap').ownBlock) => hT.rowTo htl hcell h1 h2
              rw [← hr0] at hi hlen htk
              simp only [← hr0] at hcell hrow
              obtain ⟨l0, hl0⟩ : ∃ z, z = r0.length := ⟨_, rfl⟩
              rw [← hl0] at hcell hi
              simp only [← hl0] at hrow
              replace hl0 := Lib.hid hl0
              clear hr0
              replace htk := Lib.hid htk
              replace hlen := Lib.hid hlen
              replace hrow := Lib.hid hrow
              go_upto_region 31 with (at_builtin; refine wp_append_int _ 1 rfl _ _ rfl w.heap.size _ r0 rfl hi rfl (by first | rfl | simp) hlen.out (by have := hkk.size; omega) ?_; intro v5 w5 hn5 hg5 hB5 _; obtain ⟨a5, k5, rfl, -⟩ := hn5.ints.out; obtain ⟨n5, hl5⟩ : ∃ z, z = (r0 ++ [1]).length := ⟨_, rfl⟩; rw [← hl5] at hn5 ⊢; replace hl5 := Lib.hid hl5; obtain ⟨hR, y0, y1⟩ := hrow.out w5 _ _ hn5 hg5; replace hR := Lib.hid hR; replace hB5 := Lib.hid hB5; clear hn5 hg5)
              have hkf := keptg (keptb hkk hB5.out) (keptOff_set w5 g 0 (.slice a5 n5 k5)) fun j e => by omega
              have hcf := (hc8.off (keptOfB hB5.out hB5.out.size) fun j e => by omega : CurR w5 cg _).off (keptOff_set w5 g 0 (.slice a5 n5 k5)) fun j e => by omega
              go_wp2
              go_ret
              exact ⟨_, _, rfl, hR.out, hcf.more (by omega), hkf⟩
            have hq1' : ((q8 : Int) == 1) = false := by simp; omega
            by_cases hq2 : q8 = 2
            · subst hq2
              go_upto_region 27 with fail
              go_loopw [3] (fun o wr => ∃ t, TabO wr w.heap.size o t ∧ Hid (t.length ≤ 5) ∧ CurR wr cg (K + 300 + 2) ∧ KeptOff (fun k => k = cg) w wr) (fun o _ => 5 - slLen o)
              case atStart => exact ⟨t, hT, Lib.hid (by rw [hsh.out.1]; omega), hc8, hkk⟩
              case round =>
                clear hT hkk hc8 hsh htl
                obtain ⟨t, hT, hsh, hc, hkk⟩ := hrel
                obtain ⟨ao, kz, rfl, -⟩ := (OwnR.rows hT).out
                obtain ⟨n, hn⟩ : ∃ z, z = t.length := ⟨_, rfl⟩
                have hn5 : n ≤ 5 := by rw [hn]; exact hsh.out
                rw [← hn] at hT ⊢
                replace hn := Lib.hid hn
                obtain ⟨wp, rfl⟩ : ∃ wp : World, wp = wr := ⟨_, rfl⟩
                have hsz := hkk.size
                clear hz8
                by_cases hlt : n < 5
                · have hd7 : decide ((n : Int) < 5) = true := by simp; omega
                  have hlen : Hid (t.length < 1099511627776) := Lib.hid (by have := hn.out; omega)
                  go_wp2_with (first | (at_make; refine wp_make_int _ rfl _ _ rfl M rfl rfl (by omega) ?_; intro w5 h51 h52 h53; have hTm := OwnR.below hT h52; have hdm : Hid (∀ q, (Value.slice (some ⟨wp.heap.size, 0, none⟩) M M).ownBlock = some q → ¬ (w.heap.size ≤ q ∧ q < wp.heap.size)) := Lib.hid (fun q e f => by have := OwnS.lt h51 q e; omega); have hom := OwnI.mono h51 hsz; have hsm := h52.size) | (at_builtin; refine wp_append_row _ (.slice (some ⟨wp.heap.size, 0, none⟩) M M) rfl _ _ rfl w.heap.size _ _ t rfl hTm _ hom hdm.out rfl (by first | rfl | simp) hlen.out (by omega) ?_; intro v6 w6 hn6 hg6 hB6 _))
                  have hc6 : CurR w6 cg _ := (hc.below h52).off (keptOfB hB6 hB6.size) fun j e => by omega
                  have hk6 := keptb (hkk.trans (kept0 h52 |>.mono (G := fun k => k = cg) fun _ f => f.elim)) hB6
                  have hl6 : Hid ((t ++ [List.replicate M 0]).length ≤ 5) := Lib.hid (by have := hn.out; simp; omega)
                  obtain ⟨a6, k6, e6, -⟩ := (OwnR.rows hn6).out
                  have hs6 : slLen v6 = n + 1 := by rw [e6, hn.out]; simp [slLen]
                  clear e6
                  go_roundw
                  case rel => first | exact ⟨_, hn6, hl6, hc6, hk6⟩ | ((repeat apply Exists.intro); exact ⟨⟨_, hn6, hl6, hc6, hk6⟩, rfl⟩)
                  case measure =>
                    simp only [hs6]
                    show 5 - (n + 1) < 5 - n
                    omega
                · obtain rfl : n = 5 := by omega
                  have hd7 : decide (((5 : Nat) : Int) < 5) = false := by simp
                  have hR := OwnR.b hT
                  go_wp2
                  go_ret
                  exact ⟨_, _, rfl, hR, hc.more (by omega), hkk⟩
            have hq2' : ((q8 : Int) == 2) = false := by simp; omega
            by_cases hq3 : q8 = 3
            · subst hq3
              have hRe := ((OwnR.b (ownR_empty w8 w8.heap.size (Nat.le_refl _))) : RowsB _ w8.heap.size _ [])
              have hAe := (Below.refl w8.heap.size w8).alloc (Nat.le_refl _) (.cells #[] 31)
              have hkf := hkk.trans (kalloc (F := fun k => k = cg) (w := w8) (.cells #[] 31))
              have hcf := hc8.below hAe
              have hsz := hkk.size
              go_wp2
              go_ret
              exact ⟨_, _, rfl, rowsB_mono hRe hsz, hcf.more (by omega), hkf⟩
            have hq3' : ((q8 : Int) == 3) = false := by simp; omega
            have hR := OwnR.b hT
            go_wp2
            go_ret
            exact ⟨_, _, rfl, hR, hc8.more (by omega), hkk⟩
end Go.Proofs.Ytpieaeokbblflaa
/- Sizes that are drawn; conditions: none. -/
namespace Go.Proofs.Ytpieaeokbblflaa
open Go.RowKit

theorem c_l2Near (n : Int) (w : World) : Calls Try.prog 137 #[.int .i64 n] w fun e w' => e = .returned (.int .i64 (min (max n 0) 4)) ∧ w = w' := by
  go_enter Try.func137, Try.ntmps137
  go_wp2_with fail
  refine (c_l1MostN n 0 _).mono ?_
  rintro e _ ⟨rfl, rfl⟩
  go_wp2_with fail
  refine (c_l1LeastN (max n 0) 4 _).mono ?_
  rintro e _ ⟨rfl, rfl⟩
  go_wp2
  go_ret
  exact ⟨rfl, rfl⟩
set_option maxRecDepth 100000 in
set_option maxHeartbeats 4000000 in
theorem c_sizes (g K : Nat) (w : World) (h : CurR w g K) (hK : K < 1073730000) :
    Calls Try.prog 143 #[.pointer (some ⟨g, 0, none⟩)] w fun e w' => ∃ x y, e = .returned (.tuple #[.int .i64 x, .int .i64 y]) ∧ (-1 ≤ x ∧ x ≤ 4) ∧ (0 ≤ y ∧ y ≤ 4611686018427387904) ∧ CurR w' g (K + 10) ∧ KeptOff (fun k => k = g) w w' := by
  have hg := h.lt
  go_enter Try.func143, Try.ntmps143
  go_wp2_with fail
  refine (c_one g K 2 _ h (by omega) (by omega)).mono ?_
  rintro e w1 ⟨b, rfl, hc1, hk1⟩
  cases b
  · go_wp2_with fail
    refine (c_one g (K + 2) 24 _ hc1 (by omega) (by omega)).mono ?_
    rintro e w2 ⟨b, rfl, hc2, hk2⟩
    have hz1 := hk1.size
    have hz2 := hk2.size
    cases b
    · go_wp2_with fail
      refine (c_pick g (K + 2 + 2) 3 _ hc2 (by omega) (by omega)).mono ?_
      rintro e w3 ⟨x, rfl, hx, hc3, hk3⟩
      have hx3 : x < 3 := by omega
      go_wp2_with fail
      refine (c_pick g (K + 2 + 2 + 2) 3 _ hc3 (by omega) (by omega)).mono ?_
      rintro e w4 ⟨y, rfl, hy, hc4, hk4⟩
      have hy3 : y < 3 := by omega
      go_wp2
      go_ret2
      exact ⟨_, _, rfl, by omega, by omega, hc4.more (by omega), ((hk1.trans hk2).trans hk3).trans hk4⟩
    · have hA := (Below.refl w2.heap.size w2).alloc (Nat.le_refl _) (.cells #[.int .i64 0, .int .i64 4, .int .i64 (-1), .int .i64 2] 3)
      have hl := (own_lit w2 0 [0, 4, -1, 2] #[.int .i64 0, .int .i64 4, .int .i64 (-1), .int .i64 2] rfl (Nat.zero_le _) (by simp)).ints
      go_wp2_with fail
      refine (c_among g (K + 2 + 2) _ [0, 4, -1, 2] _ (hc2.below hA) (by omega) hl (by simp) (by simp) (by intro b off n c e; simp at e; omega)).mono ?_
      rintro e w3 ⟨x, rfl, hx, hc3, hk3⟩
      have hz3 := hk3.size
      simp only [World.size_alloc] at hz3
      have hA3 := (Below.refl w3.heap.size w3).alloc (Nat.le_refl _) (.cells #[.int .i64 0, .int .i64 4, .int .i64 2, .int .i64 4611686018427387904] 3)
      have hl3 := (own_lit w3 0 [0, 4, 2, 4611686018427387904] #[.int .i64 0, .int .i64 4, .int .i64 2, .int .i64 4611686018427387904] rfl (Nat.zero_le _) (by simp)).ints
      go_wp2_with fail
      refine (c_among g (K + 2 + 2 + 2) _ [0, 4, 2, 4611686018427387904] _ (hc3.below hA3) (by omega) hl3 (by simp) (by simp) (by intro b off n c e; simp at e; omega)).mono ?_
      rintro e w4 ⟨y, rfl, hy, hc4, hk4⟩
      go_wp2
      go_ret2
      exact ⟨x, y, rfl, by simp at hx; omega, by simp at hy; omega, hc4.more (by omega), ((((hk1.trans hk2).trans ((kept0 hA).mono fun _ f => f.elim)).trans hk3).trans ((kept0 hA3).mono fun _ f => f.elim)).trans hk4⟩
  · go_wp2
    go_ret2
    exact ⟨2, 2, rfl, by omega, by omega, hc1.more (by omega), hk1⟩
end Go.Proofs.Ytpieaeokbblflaa
/- Slices of bytes: appending, cutting, what comes in; conditions: none. -/
namespace Go.Proofs.Ytpieaeokbblflaa
open Go.RowKit

theorem info_u8 : (Try.prog.info? 5).map (fun i => (i.zero, i.size, i.bytes)) = some (some (.int .u8 0), 1, 1) := by kernel_rfl
def IsU8 (us : List Value) : Prop := ∀ u ∈ us, ∃ x, u = .int .u8 x ∧ 0 ≤ x ∧ x < 256
theorem BytesV.sl {w : World} {v : Value} {n : Nat} (h : BytesV w v n) : ∃ us, us.length = n ∧ IsU8 us ∧ Sl w v us := by
  obtain ⟨ad, cap, rfl, hc, hn, hb⟩ := h
  refine ⟨(List.range n).map (fun i => match ad with | some ⟨b, off, none⟩ => (w.cell? ⟨b, off + i, none⟩).getD (.int .u8 0) | _ => .int .u8 0), by simp, ?_, ad, cap, by simp, by simpa using hc, fun j u hu => ?_⟩
  · intro u hu
    obtain ⟨i, hi, rfl⟩ := List.mem_map.1 hu
    obtain ⟨b, off, x, rfl, -, hcell, h0⟩ := hb i (List.mem_range.1 hi)
    exact ⟨x, by simp [hcell], h0⟩
  · simp only [List.getElem?_map, Option.map_eq_some_iff] at hu
    obtain ⟨i, hi, rfl⟩ := hu
    obtain ⟨hj, rfl⟩ := List.getElem?_eq_some_iff.1 hi
    simp only [List.length_range] at hj
    simp only [List.getElem_range]
    obtain ⟨b, off, x, rfl, hbl, hcell, h0⟩ := hb j hj
    exact ⟨b, off, rfl, hbl, by simp [hcell]⟩
theorem OwnS.bytes {w : World} {B : Nat} {v : Value} {us : List Value} (h : OwnS w B 5 v us) (hu : IsU8 us) (hl : us.length < 140737488355328) : BytesV w v us.length := by
  obtain ⟨a, cap, rfl, hc, hat⟩ := h.sl
  refine ⟨a, cap, rfl, hc, by omega, fun i hi => ?_⟩
  obtain ⟨b, off, e, hb, hcell⟩ := hat i us[i] (List.getElem?_eq_getElem hi)
  obtain ⟨x, hx, h0⟩ := hu _ (List.getElem_mem hi)
  exact ⟨b, off, x, e, hb, by rw [hcell, hx], h0⟩

/-- out = append(out, bytes...) -/
theorem wp_append_u8s {ops : Array Oper} {rest : List Oper} {o : Oper} {a : Act} {Q : Exit → Act → World → Prop} (w : World) (hgd : o.guard = none) (s x : Operand)
    (ho : o.op = .call { callee := .builtin .append, args := #[s, x], argTypes := #[43, 43] }) (B : Nat) (v : Value) (us : List Value) (hs : a.eval s = v) (hown : OwnS w B 5 v us)
    (u : Value) (ys : List Value) (hx : a.eval x = u) (hy : Sl w u ys) (hw : IsU8 ys) (hlen : us.length + ys.length ≤ 1099511627776) (hB : B ≤ w.heap.size)
    (h : ∀ v' w', OwnS w' B 5 v' (us ++ ys) → Below B w w' → wpList Try.prog ops Q rest (a.put o.dst v') w') :
    wpList Try.prog ops Q (o :: rest) a w := by
  obtain ⟨ad, cap, rfl, hl, hc⟩ := hy
  obtain ⟨i0, hi, hz0, hz1, hz2⟩ := info_parts info_u8
  by_cases h0 : ys.length = 0
  · have : ys = [] := List.length_eq_zero_iff.1 h0
    subst this
    cases ad with
    | none =>
      refine wp_append_nothing hgd s x 43 ho B 5 i0 1 Try.underlying43 hi v us.length cap us hs (by simpa using hown.1) (by simpa using hx) ?_
      exact h v w (by simpa using hown) (Below.refl _ _)
    | some ad =>
      refine wpList_append_own _ hgd s x 43 ho B 5 i0 _ 1 1 Try.underlying43 hi hz0 hz1 hz2 rfl (by decide) v us.length us hs hown.1 ad 0 cap [] (by simpa using hx) rfl (by simp) (by simp)
        (by unfold maxLen; omega) (by omega) (by omega) fun v' w' h1 h2 h3 => ?_
      exact h v' w' ⟨by simpa using h1, by simp; omega⟩ ((Below.refl _ _).grown h2 hB fun k hk => (OwnS.lt hown k hk).1)
  · obtain ⟨b, off, rfl, -, -⟩ := hc 0 ys[0] (List.getElem?_eq_getElem (by omega))
    refine wpList_append_own _ hgd s x 43 ho B 5 i0 _ 1 1 Try.underlying43 hi hz0 hz1 hz2 rfl (by decide) v us.length us hs hown.1 ⟨b, off, none⟩ ys.length cap ys hx (by omega) ?_ ?_
      (by unfold maxLen; omega) (by omega) (by omega) fun v' w' h1 h2 h3 => ?_
    · intro j y hj
      obtain ⟨b', off', e, -, hc'⟩ := hc j y hj
      cases e
      rw [Addr.add_lit]
      exact hc'
    · intro y hy
      obtain ⟨z, rfl, -⟩ := hw y hy
      rfl
    · exact h v' w' ⟨by rw [List.length_append]; exact h1, by simp; omega⟩ ((Below.refl _ _).grown h2 hB fun k hk => (OwnS.lt hown k hk).1)

theorem own_u8_empty (w : World) (B : Nat) (hB : B ≤ w.heap.size) : OwnS (w.alloc (.cells #[] 5)) B 5 (.slice (some ⟨w.heap.size, 0, none⟩) 0 0) [] :=
  ⟨by simpa using World.ownsRow_made w #[] 0 hB (Nat.zero_le _) (by simp), by simp⟩
theorem sl_one {w : World} {u : Value} {T : TypeId} : Sl (w.alloc (.cells #[u] T)) (.slice (some ⟨w.heap.size, 0, none⟩) 1 1) [u] := by
  refine ⟨_, 1, rfl, by simp, fun j y hj => ⟨w.heap.size, 0, rfl, by simp, ?_⟩⟩
  have : j = 0 := by have := (List.getElem?_eq_some_iff.1 hj).1; simpa using this
  subst this
  simp at hj
  subst hj
  rw [World.cell?_alloc_at _ _ _ _ rfl]
  rfl
theorem Sl.drop {w : World} {b off n cap k : Nat} {us : List Value} (h : Sl w (.slice (some ⟨b, off, none⟩) n cap) us) (hk : k ≤ n) : Sl w (.slice (some ⟨b, off + k, none⟩) (n - k) (cap - k)) (us.drop k) := by
  obtain ⟨a, c, e, hl, hc⟩ := h
  simp only [Value.slice.injEq] at e
  obtain ⟨rfl, rfl, rfl⟩ := e
  refine ⟨some ⟨b, off + k, none⟩, cap - k, by simp, by simp; omega, fun j u hu => ?_⟩
  rw [List.getElem?_drop] at hu
  obtain ⟨b', off', e, hb, hcell⟩ := hc (k + j) u hu
  cases e
  exact ⟨b, off + k, rfl, hb, by rw [Nat.add_assoc]; exact hcell⟩
theorem Sl.none {w : World} {X : Option Addr} {n c : Nat} (hn : n = 0) (h : c ≤ 9223372036854775807) : Sl w (.slice X n c) [] := ⟨X, c, by rw [hn]; rfl, by simpa using h, fun j u hu => by simp at hu⟩

theorem IsU8.app {a b : List Value} (h : IsU8 a) (k : IsU8 b) : IsU8 (a ++ b) := fun u hu => (List.mem_append.1 hu).elim (h u) (k u)
end Go.Proofs.Ytpieaeokbblflaa
/- Tasks, and places in them, that are drawn from bytes; conditions: none. -/
namespace Go.Proofs.Ytpieaeokbblflaa
open Go.RowKit

theorem c_rBigT (v : Value) (n : Nat) (w : World) (h : BytesV w v n) : Calls Try.prog 28 #[v] w fun e w' => e = .returned (.bool (decide (65536 < n))) ∧ w = w' := by
  obtain ⟨ad, cap, rfl, -, -⟩ := h
  have hd : decide ((n : Int) > 65536) = decide (65536 < n) := by simp; omega
  obtain ⟨b, hb⟩ : ∃ b, b = decide (65536 < n) := ⟨_, rfl⟩
  rw [← hb] at hd ⊢
  replace hb := Lib.hid hb
  go_enter Try.func28, Try.ntmps28
  go_wp2
  go_ret
  exact ⟨rfl, rfl⟩
theorem c_l8MembersI (n q : Nat) (r : Int) (w : World) (hn : n ≤ 4) (hr : q < 16) (e : r = (q : Int)) :
    Calls Try.prog 121 #[.int .i64 n, .int .i64 r] w fun e w' => ∃ v', e = .returned v' ∧ OwnI w' w.heap.size v' (memL q n) ∧ Below w.heap.size w w' := by
  subst e
  exact c_l8Members n q w hn hr
theorem RowsB.cur {w w' : World} {lo cg : Nat} {v : Value} {t : List (List Int)} (h : RowsB w lo v t) (hk : KeptOff (fun k => k = cg) w w') (hc : cg < lo) : RowsB w' lo v t := h.off hk fun k e => by omega
set_option maxRecDepth 100000 in
set_option maxHeartbeats 4000000 in
theorem c_DrawIsTask (v : Value) (m : Nat) (w : World) (h : BytesV w v m) :
    Calls Try.prog 100 #[v] w fun e w' => ∃ v' t, e = .returned v' ∧ Rows2 w' v' t ∧ Below w.heap.size w w' := by
  obtain ⟨ad, cap, rfl, hcap, hbr⟩ := id h
  have hcn := cur_new (cap := cap) hbr
  have hAc := (Below.refl w.heap.size w).alloc (Nat.le_refl _) (.cells #[.slice ad m cap, .int .i64 0, .int .u64 0] 109)
  obtain ⟨wa, hwa⟩ : ∃ z, z = w.alloc (.cells #[.slice ad m cap, .int .i64 0, .int .u64 0] 109) := ⟨_, rfl⟩
  have hza : w.heap.size < wa.heap.size := by rw [hwa]; simp
  rw [← hwa] at hcn hAc
  obtain ⟨cg, hcg⟩ : ∃ z, z = w.heap.size := ⟨_, rfl⟩
  rw [← hcg] at hcn hza
  go_enter Try.func100, Try.ntmps100
  go_wp2_with fail
  rw [← hwa, ← hcg]
  replace hcg : w.heap.size ≤ cg := by omega
  clear hwa
  refine (c_task cg 0 _ hcn (by omega)).mono ?_
  rintro e w2 ⟨v', t, rfl, hR, -, hk⟩
  have hB := hAc.trans (hk.below (B := w.heap.size) (fun k e => by omega) (by omega))
  go_wp2
  go_ret
  exact ⟨_, t, rfl, hR.rows, hB⟩
set_option maxRecDepth 100000 in
theorem c_DrawRanksOf (v : Value) (m : Nat) (w : World) (h : BytesV w v m) :
    Calls Try.prog 54 #[v] w fun e w' => ∃ v' t, e = .returned v' ∧ Rows2 w' v' t ∧ Below w.heap.size w w' := by
  obtain ⟨ad, cap, rfl, hcap, -⟩ := id h
  go_enter Try.func54, Try.ntmps54
  go_wp2_with fail
  refine (c_DrawIsTask _ m _ h).mono ?_
  rintro e w2 ⟨v', t, rfl, hR, hB⟩
  go_wp2
  go_ret
  exact ⟨_, t, rfl, hR, hB⟩
set_option maxRecDepth 100000 in
set_option maxHeartbeats 4000000 in
theorem c_DrawFoolingSet (v : Value) (m : Nat) (w : World) (h : BytesV w v m) :
    Calls Try.prog 50 #[v] w fun e w' => ∃ v' t b, e = .returned (.tuple #[v', .int .i64 b]) ∧ Rows2 w' v' t ∧ (-1 ≤ b ∧ b ≤ 2) ∧ Below w.heap.size w w' := by
  obtain ⟨ad, cap, rfl, hcap, hbr⟩ := id h
  have hcn := cur_new (cap := cap) hbr
  have hAc := (Below.refl w.heap.size w).alloc (Nat.le_refl _) (.cells #[.slice ad m cap, .int .i64 0, .int .u64 0] 109)
  obtain ⟨wa, hwa⟩ : ∃ z, z = w.alloc (.cells #[.slice ad m cap, .int .i64 0, .int .u64 0] 109) := ⟨_, rfl⟩
  have hza : w.heap.size < wa.heap.size := by rw [hwa]; simp
  rw [← hwa] at hcn hAc
  obtain ⟨cg, hcg⟩ : ∃ z, z = w.heap.size := ⟨_, rfl⟩
  rw [← hcg] at hcn hza
  go_enter Try.func50, Try.ntmps50
  go_wp2_with fail
  rw [← hwa, ← hcg]
  replace hcg : w.heap.size ≤ cg := by omega
  clear hwa
  refine (c_task cg 0 _ hcn (by omega)).mono ?_
  rintro e w2 ⟨v', t, rfl, hR, hc2, hk⟩
  have hA1 := (Below.refl w2.heap.size w2).alloc (Nat.le_refl _) (.cells #[.int .i64 1, .int .i64 0, .int .i64 1, .int .i64 0, .int .i64 1, .int .i64 2, .int .i64 (-1)] 3)
  have hl1 := (own_lit w2 0 [1, 0, 1, 0, 1, 2, -1] #[.int .i64 1, .int .i64 0, .int .i64 1, .int .i64 0, .int .i64 1, .int .i64 2, .int .i64 (-1)] rfl (Nat.zero_le _) (by simp)).ints
  have hlt := hc2.lt
  go_wp2_with fail
  refine (c_among cg _ _ [1, 0, 1, 0, 1, 2, -1] _ (hc2.below hA1) (by omega) hl1 (by simp) (by simp) (by intro b off n c e; simp at e; omega)).mono ?_
  rintro e w3 ⟨b, rfl, hb, -, hk3⟩
  have hb2 : -1 ≤ b ∧ b ≤ 2 := by simp at hb; omega
  have hB := hAc.trans (hk.below (B := w.heap.size) (fun k e => by omega) (by omega))
  have hR3 : RowsB w3 wa.heap.size v' t := (hR.off (kept0 hA1) fun _ f => f.elim).cur hk3 hza
  have hB3 := (hB.trans (hA1.mono (by have := hB.size; omega))).trans (hk3.below (B := w.heap.size) (fun k e => by omega) (by have := hA1.size; have := hB.size; omega))
  go_wp2
  go_ret2
  exact ⟨_, t, b, rfl, hR3.rows, hb2, hB3⟩
set_option maxRecDepth 100000 in
set_option maxHeartbeats 4000000 in
theorem c_DrawIsPlain (v : Value) (m : Nat) (w : World) (h : BytesV w v m) :
    Calls Try.prog 62 #[v] w fun e w' => ∃ v' t u xs x ys, e = .returned (.tuple #[v', u, x]) ∧ Rows2 w' v' t ∧ Ints w' u xs ∧ Ints w' x ys ∧ Below w.heap.size w w' := by
  obtain ⟨ad, cap, rfl, hcap, hbr⟩ := id h
  have hcn := cur_new (cap := cap) hbr
  have hAc := (Below.refl w.heap.size w).alloc (Nat.le_refl _) (.cells #[.slice ad m cap, .int .i64 0, .int .u64 0] 109)
  obtain ⟨wa, hwa⟩ : ∃ z, z = w.alloc (.cells #[.slice ad m cap, .int .i64 0, .int .u64 0] 109) := ⟨_, rfl⟩
  have hza : w.heap.size < wa.heap.size := by rw [hwa]; simp
  rw [← hwa] at hcn hAc
  obtain ⟨cg, hcg⟩ : ∃ z, z = w.heap.size := ⟨_, rfl⟩
  rw [← hcg] at hcn hza
  go_enter Try.func62, Try.ntmps62
  go_wp2_with fail
  rw [← hwa, ← hcg]
  replace hcg : w.heap.size ≤ cg := by omega
  clear hwa
  refine (c_task cg 0 _ hcn (by omega)).mono ?_
  rintro e w2 ⟨v', t, rfl, hR, hc2, hk⟩
  have hB := hAc.trans (hk.below (B := w.heap.size) (fun k e => by omega) (by omega))
  have hs2 := hB.size
  have hlt := hc2.lt
  have hza2 : cg < wa.heap.size ∧ wa.heap.size ≤ w2.heap.size := ⟨hza, hk.size⟩
  clear hcn hk hAc hza hbr
  go_wp2_with fail
  refine (c_pick cg _ 16 _ hc2 (by omega) (by omega)).mono ?_
  rintro e w3 ⟨p, rfl, hp, hc3, hk3⟩
  go_wp2_with fail
  refine (c_l8Members 4 p _ (by decide) (by omega)).mono ?_
  rintro e w4 ⟨u4, rfl, hO4, hB4⟩
  have hc4 := hc3.below hB4
  go_wp2_with fail
  refine (c_pick cg _ 16 _ hc4 (by omega) (by omega)).mono ?_
  rintro e w5 ⟨q, rfl, hq, hc5, hk5⟩
  go_wp2_with fail
  refine (c_l8Members 4 q _ (by decide) (by omega)).mono ?_
  rintro e w6 ⟨u6, rfl, hO6, hB6⟩
  have hc6 := hc5.below hB6
  have hR6 : RowsB w6 wa.heap.size v' t := (((hR.cur hk3 hza2.1).off (kept0 hB4) fun _ f => f.elim).cur hk5 hza2.1).off (kept0 hB6) fun _ f => f.elim
  have hO46 : IntsB w6 wa.heap.size u4 (memL p 4) := ⟨OwnI.ints (OwnI.below (show OwnI w5 w3.heap.size u4 (memL p 4) from own_off (show cg < w3.heap.size by have := hk3.size; omega) hO4 hk5) hB6), fun g e => by have := (OwnS.lt hO4 g e).1; have := hk3.size; omega⟩
  have hO66 : IntsB w6 wa.heap.size u6 (memL q 4) := ⟨hO6.ints, fun g e => by have := (OwnS.lt hO6 g e).1; have := hk3.size; have := hB4.size; have := hk5.size; omega⟩
  have hBB := (((hB.trans (hk3.below (B := w.heap.size) (fun k e => by omega) (by omega))).trans (hB4.mono (by have := hk3.size; omega))).trans (hk5.below (B := w.heap.size) (fun k e => by omega) (by have := hk3.size; have := hB4.size; omega))).trans (hB6.mono (by have := hk3.size; have := hB4.size; have := hk5.size; omega))
  have hs6 : wa.heap.size ≤ w6.heap.size := by have := hk3.size; have := hB4.size; have := hk5.size; have := hB6.size; omega
  clear hR hc2 hc3 hk3 hO4 hB4 hc4 hk5 hO6 hB6 hc5 hB
  obtain ⟨X, hX⟩ : ∃ z, z = memL p 4 := ⟨_, rfl⟩
  obtain ⟨Y, hY⟩ : ∃ z, z = memL q 4 := ⟨_, rfl⟩
  rw [← hX] at hO46
  rw [← hY] at hO66
  clear hX hY hp hq
  go_wp2_with fail
  refine (c_l8Task_no _ t _ hR6.rows).mono ?_
  rintro e w7 ⟨rfl, hB7⟩
  have hc7 := hc6.below hB7
  have hR7 : RowsB w7 wa.heap.size v' t := hR6.off (kept0 hB7) fun _ f => f.elim
  have hX7 : IntsB w7 wa.heap.size u4 X := hO46.off (kept0 hB7) fun _ f => f.elim
  have hY7 : IntsB w7 wa.heap.size u6 Y := hO66.off (kept0 hB7) fun _ f => f.elim
  replace hBB := hBB.trans (hB7.mono (by omega))
  have hs7 : wa.heap.size ≤ w7.heap.size := by have := hB7.size; omega
  clear hB7 hR6 hO46 hO66 hc6 hs6
  cases ht : taskB t
  · replace ht := Lib.hid ht
    go_wp2
    go_ret3
    exact ⟨_, t, _, X, _, Y, rfl, hR7.rows, hX7.1, hY7.1, hBB⟩
  go_wp2_with fail
  refine (c_one cg _ 8 _ hc7 (by omega) (by omega)).mono ?_
  rintro e w8 ⟨b8, rfl, hc8, hk8⟩
  have hR8 := hR7.cur hk8 hza2.1
  have hX8 : IntsB w8 wa.heap.size u4 X := hX7.off hk8 fun k e => by omega
  have hY8 : IntsB w8 wa.heap.size u6 Y := hY7.off hk8 fun k e => by omega
  replace hBB := hBB.trans (hk8.below (B := w.heap.size) (fun k e => by omega) (by omega))
  have hs8 : wa.heap.size ≤ w8.heap.size := by have := hk8.size; omega
  clear hk8 hR7 hX7 hY7 hc7 hs7
  cases b8
  case true =>
    replace ht := Lib.hid ht
    go_wp2
    go_ret3
    exact ⟨_, t, _, X, _, Y, rfl, hR8.rows, hX8.1, hY8.1, hBB⟩
  obtain ⟨hn, hm, hrow, -⟩ := taskB_yes ht
  replace ht := Lib.hid ht
  obtain ⟨av, cv, rfl, -⟩ := hR8.rows.out
  have hwl : (t.getD 0 []).length = wid t := rfl
  obtain ⟨rb, ro, ra, rc, e, hrb, hcell, hi⟩ := hR8.rows.at 0 (by omega)
  subst e
  have hl0 : t[0].length = wid t := hrow 0 (by omega)
  rw [hl0, Nat.add_zero] at hcell
  have hrlo : wa.heap.size ≤ rb := by
    obtain ⟨vs, -, -, -, hv, -⟩ := hR8
    exact hv rb rfl
  obtain ⟨n, hn'⟩ : ∃ z, z = t.length := ⟨_, rfl⟩
  obtain ⟨M, hm'⟩ : ∃ z, z = wid t := ⟨_, rfl⟩
  rw [← hn'] at hn hR8 ⊢
  rw [← hm'] at hm hcell
  obtain ⟨e1, u1, u2⟩ := shl_oneN n hn.2
  obtain ⟨e2, m1, m2⟩ := shl_oneN M hm.2
  obtain ⟨U, hU⟩ : ∃ z, z + 1 = 2 ^ n := ⟨2 ^ n - 1, by omega⟩
  obtain ⟨W, hW⟩ : ∃ z, z + 1 = 2 ^ M := ⟨2 ^ M - 1, by omega⟩
  have hW1 : 1 ≤ W := by have := Nat.pow_le_pow_right (show 0 < 2 by decide) hm.1; omega
  rw [← hU] at e1 u1 u2
  rw [← hW] at e2 m1 m2
  have hn0 : 0 < n := hn.1
  replace hn' := Lib.hid hn'
  replace hm' := Lib.hid hm'
  replace hU := Lib.hid hU
  replace hW := Lib.hid hW
  clear hrow hi hrb hl0 hwl hX8
  go_wp2_with fail
  refine (c_pick cg _ _ _ hc8 (by omega) (by omega)).mono ?_
  rintro e w9 ⟨x9, rfl, hx9, hc9, hk9⟩
  have hR9 := hR8.cur hk9 hza2.1
  have hY9 : IntsB w9 wa.heap.size u6 Y := hY8.off hk9 fun k e => by omega
  have hcell9 := kcell hk9 hcell (by omega)
  replace hBB := hBB.trans (hk9.below (B := w.heap.size) (fun k e => by omega) (by omega))
  have hs9 : wa.heap.size ≤ w9.heap.size := by have := hk9.size; omega
  have hx10 : 1 + x9 < 16 := by omega
  clear hk9 hR8 hY8 hc8 hs8 hcell hx9
  go_wp2_with fail
  refine (c_l8MembersI n (1 + x9) _ _ hn.2 hx10 (by omega)).mono ?_
  rintro e wb ⟨ub, rfl, hOb, hBb⟩
  have hRb : RowsB wb wa.heap.size _ t := hR9.off (kept0 hBb) fun _ f => f.elim
  have hXb : IntsB wb wa.heap.size ub (memL (1 + x9) n) := ⟨hOb.ints, fun g e => by have := (OwnS.lt hOb g e).1; omega⟩
  have hcb := hc9.below hBb
  have hcellb : wb.cell? ⟨rb, ro, none⟩ = some (.slice ra M rc) := ((bcell hBb).1 _ _ (World.block_lt_of_cell? _ _ hcell9)).trans hcell9
  replace hBB := hBB.trans (hBb.mono (by omega))
  have hsb : wa.heap.size ≤ wb.heap.size := by have := hBb.size; omega
  obtain ⟨X2, hX2⟩ : ∃ z, z = memL (1 + x9) n := ⟨_, rfl⟩
  rw [← hX2] at hXb
  clear hX2 hOb hBb hR9 hY9 hc9 hcell9 hs9
  go_upto_region 6 with fail
  refine wp_region_cur (by kernel_rfl) [none, none, none, none, none, none, none, none, some 14, none, none, none, none, none, none, none, none, none, none, none, none, none, none, none, none, none, none, none, none, none, none, none, none, none, none, none, none, some 0, some 1, some 2, some 3, some 4, some 5, some 6, some 7, some 8, some 9, some 10, some 11, some 12, some 13] 13 (by kernel_rfl) (by kernel_rfl) (by kernel_rfl) (by simp) _ rfl cg (1000 + 2 + 2 + 2 + 2 + 20) (hcb.more (by omega)) (by omega) [dkV cg (.slice (some ⟨rb, ro, none⟩) n cv), dkV cg (.pointer (some ⟨rb, ro, none⟩)), dkV cg (.slice ra M rc), dkV cg (.int .i64 (M : Int)), dkV cg (.pointer (some ⟨cg, 0, none⟩)), dkV cg (.slice (some ⟨rb, ro, none⟩) n cv), dkV cg (.pointer (some ⟨rb, ro, none⟩)), dkV cg (.slice ra M rc), dkV cg (.int .i64 (M : Int)), dkV cg (.int .i64 ((W : Int) + 1)), dkV cg (.int .i64 (W : Int)), dkN cg (fun x => 0 ≤ x ∧ x < (W : Int)), dkN cg (fun x => 1 ≤ x ∧ x ≤ 15)] ?_ ?_
  · intro i o ho hi u ww Kn hk hc hKn hd
    have y_hcellb := kcell hk hcellb (by omega)
    have hsz := hk.size
    rcases i with _ | _ | _ | _ | _ | _ | _ | _ | _ | _ | _ | _ | _ | _ | _ | i
    all_goals try obtain rfl := Option.some.inj ho
    all_goals try simp only [putAll, fillL, List.getElem_toArray, List.getElem_cons_succ, List.getElem_cons_zero]
    · go_wp2
      exact ⟨_, rfl, KeptOff.refl _ _, hc.more (by omega), rfl⟩
    · have e0 : u 0 = .slice (some ⟨rb, ro, none⟩) n cv := hd 0 (by decide)
      rw [e0]
      go_wp2
      exact ⟨_, by simp only [putAll, fillL, e0] <;> rfl, KeptOff.refl _ _, hc.more (by omega), rfl⟩
    · have e1 : u 1 = .pointer (some ⟨rb, ro, none⟩) := hd 1 (by decide)
      rw [e1]
      go_wp2
      exact ⟨_, by simp only [putAll, fillL, e1] <;> rfl, KeptOff.refl _ _, hc.more (by omega), rfl⟩
    · have e2 : u 2 = .slice ra M rc := hd 2 (by decide)
      rw [e2]
      go_wp2
      exact ⟨_, by simp only [putAll, fillL, e2] <;> rfl, KeptOff.refl _ _, hc.more (by omega), rfl⟩
    · go_wp2
      exact ⟨_, rfl, KeptOff.refl _ _, hc.more (by omega), rfl⟩
    · go_wp2
      exact ⟨_, rfl, KeptOff.refl _ _, hc.more (by omega), rfl⟩
    · have e5 : u 5 = .slice (some ⟨rb, ro, none⟩) n cv := hd 5 (by decide)
      rw [e5]
      go_wp2
      exact ⟨_, by simp only [putAll, fillL, e5] <;> rfl, KeptOff.refl _ _, hc.more (by omega), rfl⟩
    · have e6 : u 6 = .pointer (some ⟨rb, ro, none⟩) := hd 6 (by decide)
      rw [e6]
      go_wp2
      exact ⟨_, by simp only [putAll, fillL, e6] <;> rfl, KeptOff.refl _ _, hc.more (by omega), rfl⟩
    · have e7 : u 7 = .slice ra M rc := hd 7 (by decide)
      rw [e7]
      go_wp2
      exact ⟨_, by simp only [putAll, fillL, e7] <;> rfl, KeptOff.refl _ _, hc.more (by omega), rfl⟩
    · have e8 : u 8 = .int .i64 (M : Int) := hd 8 (by decide)
      rw [e8]
      go_wp2
      exact ⟨_, by simp only [putAll, fillL, e8] <;> rfl, KeptOff.refl _ _, hc.more (by omega), rfl⟩
    · have e9 : u 9 = .int .i64 ((W : Int) + 1) := hd 9 (by decide)
      rw [e9]
      go_wp2
      exact ⟨_, by simp only [putAll, fillL, e9] <;> rfl, KeptOff.refl _ _, hc.more (by omega), rfl⟩
    · have e4 : u 4 = .pointer (some ⟨cg, 0, none⟩) := hd 4 (by decide)
      rw [e4]
      have e10 : u 10 = .int .i64 (W : Int) := hd 10 (by decide)
      rw [e10]
      go_wp2_with fail
      refine (c_pick cg _ _ _ hc (by omega) (by omega)).mono ?_
      rintro e wn ⟨x, rfl, hx, hcn, hkn⟩
      go_wp2
      exact ⟨_, by simp only [putAll, fillL, e4, e10] <;> rfl, hkn, hcn, ⟨_, rfl, by omega, by omega⟩⟩
    · obtain ⟨x11, e11, n11⟩ : ∃ x, u 11 = .int .i64 x ∧ _ := hd 11 (by decide)
      rw [e11]
      go_wp2
      exact ⟨_, by simp only [putAll, fillL, e11] <;> rfl, KeptOff.refl _ _, hc.more (by omega), ⟨_, rfl, by omega, by omega⟩⟩
    · omega
    · omega
    · simp at ho
  · intro u ww hk hc2 hV
    have hsz := hk.size
    have y_hcellb := kcell hk hcellb (by omega)
    simp only [putAll, fillL]
    have e0 : u 0 = .slice (some ⟨rb, ro, none⟩) n cv := hV 0 (by decide)
    try rw [e0]
    have e1 : u 1 = .pointer (some ⟨rb, ro, none⟩) := hV 1 (by decide)
    try rw [e1]
    have e2 : u 2 = .slice ra M rc := hV 2 (by decide)
    try rw [e2]
    have e3 : u 3 = .int .i64 (M : Int) := hV 3 (by decide)
    rw [e3]
    have e4 : u 4 = .pointer (some ⟨cg, 0, none⟩) := hV 4 (by decide)
    try rw [e4]
    have e5 : u 5 = .slice (some ⟨rb, ro, none⟩) n cv := hV 5 (by decide)
    try rw [e5]
    have e6 : u 6 = .pointer (some ⟨rb, ro, none⟩) := hV 6 (by decide)
    try rw [e6]
    have e7 : u 7 = .slice ra M rc := hV 7 (by decide)
    try rw [e7]
    have e8 : u 8 = .int .i64 (M : Int) := hV 8 (by decide)
    try rw [e8]
    have e9 : u 9 = .int .i64 ((W : Int) + 1) := hV 9 (by decide)
    try rw [e9]
    have e10 : u 10 = .int .i64 (W : Int) := hV 10 (by decide)
    try rw [e10]
    obtain ⟨x11, e11, n11⟩ : ∃ x, u 11 = .int .i64 x ∧ _ := hV 11 (by decide)
    try rw [e11]
    obtain ⟨x12, e12, n12⟩ : ∃ x, u 12 = .int .i64 x ∧ _ := hV 12 (by decide)
    rw [e12]
    clear hV
    try simp only [List.getElem_toArray, List.getElem_cons_succ, List.getElem_cons_zero]
    change wpList _ _ _ [_, _] _ _
    obtain ⟨y12, rfl⟩ := Int.eq_ofNat_of_zero_le (show 0 ≤ x12 by omega)
    have hRc := hRb.cur hk hza2.1
    have hXc : IntsB ww wa.heap.size ub X2 := hXb.off hk fun k e => by omega
    replace hBB := hBB.trans (hk.below (B := w.heap.size) (fun k e => by omega) (by omega))
    have hsc : w.heap.size ≤ ww.heap.size := by have := hk.size; omega
    have hy16 : y12 < 16 := by omega
    clear hk hRb hXb hcb hcellb y_hcellb e0 e1 e2 e3 e4 e5 e6 e7 e8 e9 e10 e11 e12
    go_wp2_with fail
    refine (c_l8Members M y12 _ hm.2 hy16).mono ?_
    rintro e wd ⟨ud, rfl, hOd, hBd⟩
    have hRd := hRc.rows.below hBd
    have hXd := hXc.1.below hBd
    have hBe := hBB.trans (hBd.mono hsc)
    go_wp2
    go_ret3
    exact ⟨_, t, _, X2, _, _, rfl, hRd, hXd, hOd.ints, hBe⟩
end Go.Proofs.Ytpieaeokbblflaa
/- Equal lists, tables and lists of pairs; conditions: none. -/
namespace Go.Proofs.Ytpieaeokbblflaa
open Go.RowKit

theorem c_rInts_same (v u : Value) (xs : List Int) (w : World) (h : Ints w v xs) (g : Ints w u xs) :
    Calls Try.prog 38 #[v, u] w fun e w' => e = .returned (.bool true) ∧ Below w.heap.size w w' := by
  obtain ⟨ad, cap, rfl, hl, -⟩ := h.out
  obtain ⟨ad', cap', rfl, hl', -⟩ := g.out
  go_enter Try.func38, Try.ntmps38
  go_wp2
  go_loopw [5] (fun i wr => ∃ k : Nat, k ≤ xs.length ∧ i = .int .i64 k ∧ Hid (∃ m, wr = w.drewN m)) (fun i _ => xs.length - (intOf i).toNat)
  case atStart => exact ⟨0, Nat.zero_le _, rfl, 0, rfl⟩
  case round =>
    obtain ⟨k, hk, rfl, hB⟩ := hrel
    obtain ⟨m, rfl⟩ := hB.out
    clear hB
    by_cases hlt : k < xs.length
    · have hd : decide ((k : Int) < (xs.length : Int)) = true := by simp; omega
      obtain ⟨bl, off, rfl, hb, hcell⟩ := h.at k hlt
      obtain ⟨bl', off', rfl, hb', hcell'⟩ := g.at k hlt
      go_wp2
      go_quiet (fail)
      all_goals go_wp2
      all_goals go_roundw
      case rel => exact ⟨k + 1, by omega, by go_num, Lib.hid ⟨_, rfl⟩⟩
      case measure => simp [intOf]; omega
    · obtain rfl : k = xs.length := by omega
      go_wp2
      go_ret
      exact ⟨rfl, below_drewN (Below.refl _ _) _⟩

set_option maxRecDepth 100000 in
set_option maxHeartbeats 4000000 in
theorem c_rTable_same (v u : Value) (t : List (List Int)) (w : World) (h : Rows2 w v t) (g : Rows2 w u t) :
    Calls Try.prog 61 #[v, u] w fun e w' => e = .returned (.bool true) ∧ Below w.heap.size w w' := by
  obtain ⟨ad, cap, rfl, hl⟩ := h.out
  obtain ⟨ad', cap', rfl, hl'⟩ := g.out
  go_enter Try.func61, Try.ntmps61
  go_wp2
  go_loopw [5] (fun i wr => ∃ k : Nat, k ≤ t.length ∧ i = .int .i64 k ∧ Below w.heap.size w wr) (fun i _ => t.length - (intOf i).toNat)
  case atStart => exact ⟨0, Nat.zero_le _, rfl, Below.refl _ _⟩
  case round =>
    obtain ⟨k, hk, rfl, hB⟩ := hrel
    obtain ⟨wo, rfl⟩ : ∃ wo : World, wo = wr := ⟨_, rfl⟩
    by_cases hlt : k < t.length
    · have hd : decide ((k : Int) < (t.length : Int)) = true := by simp; omega
      obtain ⟨bl, off, ax, cx, e0, hb0, hc0, hi0⟩ := (h.below hB).at k hlt
      subst e0
      obtain ⟨bl', off', ax', cx', e1, hb1, hc1, hi1⟩ := (g.below hB).at k hlt
      subst e1
      obtain ⟨xs, hxs⟩ : ∃ xs, xs = t[k] := ⟨_, rfl⟩
      rw [← hxs] at hc0 hc1 hi0 hi1
      obtain ⟨nx, hnx⟩ : ∃ n, n = xs.length := ⟨_, rfl⟩
      rw [← hnx] at hc0 hc1 hi0 hi1
      clear hxs
      replace hnx := Lib.hid hnx
      go_wp2
      refine wp_region_rk (by kernel_rfl) [none, none, none, none, none, none, none, none, none, none, none, none, none, none, none, none, none, some 0, some 1, some 2, some 3, some 4, some 5, some 6, some 7, some 8, some 9] 9 (by kernel_rfl) (by kernel_rfl) (by kernel_rfl) _ rfl wo.heap.size [rkV (.slice (some ⟨bl, off, none⟩) t.length cap), rkV (.int .i64 k), rkV (.pointer (some ⟨bl, off + k, none⟩)), rkV (.slice ax nx cx), rkV (.slice (some ⟨bl', off', none⟩) t.length cap'), rkV (.int .i64 k), rkV (.pointer (some ⟨bl', off' + k, none⟩)), rkV (.slice ax' nx cx'), rkV (.bool true)] _ rfl (by kernel_rfl) (by simp) ?_ ?_
      · intro i o ho hi u g ww hbw hd
        have hall : Below wo.heap.size wo ww := hbw
        have hlow : wo.heap.size ≤ ww.heap.size := hall.size
        obtain ⟨hcl, hfr⟩ := bcell hbw
        have y_hc0 := (hcl _ _ (by omega)).trans hc0
        have y_hc1 := (hcl _ _ (by omega)).trans hc1
        clear hcl hfr
        rcases i with _ | _ | _ | _ | _ | _ | _ | _ | _ | _ | i
        all_goals try obtain rfl := Option.some.inj ho
        all_goals try simp only [putAll, fillL]
        · go_wp2
          exact ⟨_, rfl, kept0 (Below.refl _ _), rfl⟩
        · go_wp2
          exact ⟨_, rfl, kept0 (Below.refl _ _), rfl⟩
        · have e0 : u 0 = .slice (some ⟨bl, off, none⟩) t.length cap := hd 0 (by decide)
          rw [e0]
          have e1 : u 1 = .int .i64 k := hd 1 (by decide)
          rw [e1]
          go_wp2
          exact ⟨_, by simp only [putAll, fillL, e0, e1] <;> rfl, kept0 (Below.refl _ _), rfl⟩
        · have e2 : u 2 = .pointer (some ⟨bl, off + k, none⟩) := hd 2 (by decide)
          rw [e2]
          go_wp2
          exact ⟨_, by simp only [putAll, fillL, e2] <;> rfl, kept0 (Below.refl _ _), rfl⟩
        · go_wp2
          exact ⟨_, rfl, kept0 (Below.refl _ _), rfl⟩
        · go_wp2
          exact ⟨_, rfl, kept0 (Below.refl _ _), rfl⟩
        · have e4 : u 4 = .slice (some ⟨bl', off', none⟩) t.length cap' := hd 4 (by decide)
          rw [e4]
          have e5 : u 5 = .int .i64 k := hd 5 (by decide)
          rw [e5]
          go_wp2
          exact ⟨_, by simp only [putAll, fillL, e4, e5] <;> rfl, kept0 (Below.refl _ _), rfl⟩
        · have e6 : u 6 = .pointer (some ⟨bl', off' + k, none⟩) := hd 6 (by decide)
          rw [e6]
          go_wp2
          exact ⟨_, by simp only [putAll, fillL, e6] <;> rfl, kept0 (Below.refl _ _), rfl⟩
        · have e3 : u 3 = .slice ax nx cx := hd 3 (by decide)
          rw [e3]
          have e7 : u 7 = .slice ax' nx cx' := hd 7 (by decide)
          rw [e7]
          go_wp2_with fail
          refine (c_rInts_same _ _ xs _ (hi0.below hall) (hi1.below hall)).mono ?_
          rintro e wn ⟨rfl, hbn⟩
          go_wp2
          exact ⟨_, by simp only [putAll, fillL, e3, e7] <;> rfl, kept0 hbn, rfl⟩
        · exact absurd rfl hi
        · simp at ho
      · intro u gg w2 hbw hR hAp
        have e8 : u 8 = .bool true := hR 8 (by decide) (by decide)
        simp only [putAll, fillL]
        rw [e8]
        have hB2 := bstep hB hbw
        clear hR hAp e8
        go_wp2
        go_roundw
        case rel => exact ⟨k + 1, by omega, by go_num, hB2⟩
        case measure => simp [intOf]; omega
    · obtain rfl : k = t.length := by omega
      go_wp2
      go_ret
      exact ⟨rfl, hB⟩
theorem cells_i : Try.prog.cellsOf 3 = 1 := by kernel_rfl
theorem neq_pairs (a b : Int) (w : World) : (binOp .neq 76 (.agg #[.int .i64 a, .int .i64 b]) (.agg #[.int .i64 a, .int .i64 b])).run Try.prog w = .ok (.bool false) w := by
  obtain ⟨i0, hi, hz0, hz1, hz2⟩ := info_parts info_int
  rw [run_neq_struct, show (10000 : Nat) = 9999 + 1 from rfl, run_equalIn_array w 9999 _ _ Try.underlying76 hi, cells_i]
  have e := fun (x : Int) (w : World) => run_equalIn_int (P := Try.prog) w 9998 3 .i64 .i64 x x Try.underlying3
  simp only [List.range_succ, List.range_zero, List.nil_append, List.cons_append, Op.eqItems]
  simp [part, e]
theorem c_rPairs_same (v u : Value) (ps : List (Int × Int)) (w : World) (h : Pairs w v ps) (g : Pairs w u ps) :
    Calls Try.prog 53 #[v, u] w fun e w' => e = .returned (.bool true) ∧ Below w.heap.size w w' := by
  obtain ⟨ad, cap, rfl, hl⟩ := h.out
  obtain ⟨ad2, cap2, rfl, hl'⟩ := g.out
  have hnq := neq_pairs
  go_enter Try.func53, Try.ntmps53
  go_wp2
  go_loopw [5] (fun i wr => ∃ k : Nat, k ≤ ps.length ∧ i = .int .i64 k ∧ Below w.heap.size w wr) (fun i _ => ps.length - (intOf i).toNat)
  case atStart => exact ⟨0, Nat.zero_le _, rfl, Below.refl _ _⟩
  case round =>
    obtain ⟨k, hk, rfl, hB⟩ := hrel
    by_cases hlt : k < ps.length
    · have hd : decide ((k : Int) < (ps.length : Int)) = true := by simp; omega
      obtain ⟨bl, off, rfl, hb, hcell, hcell2⟩ := (h.below hB).at k hlt
      obtain ⟨bl2, off2, rfl, hb2, hcell3, hcell4⟩ := (g.below hB).at k hlt
      obtain ⟨wo, rfl⟩ : ∃ wo : World, wo = wr := ⟨_, rfl⟩
      go_wp2_with fail
      refine wp_region_rk (by kernel_rfl) [none, none, none, none, none, none, none, none, none, none, none, none, none, none, none, none, none, some 0, some 1, some 2, some 3, some 4, some 5, some 6, some 7, some 8] 8 (by kernel_rfl) (by kernel_rfl) (by kernel_rfl) _ rfl wo.heap.size [rkV (.slice (some ⟨bl, off, none⟩) ps.length cap), rkV (.int .i64 k), rkV (.pointer (some ⟨bl, off + k * 2, none⟩)), rkV (.agg #[.int .i64 ps[k].1, .int .i64 ps[k].2]), rkV (.slice (some ⟨bl2, off2, none⟩) ps.length cap2), rkV (.int .i64 k), rkV (.pointer (some ⟨bl2, off2 + k * 2, none⟩)), rkV (.agg #[.int .i64 ps[k].1, .int .i64 ps[k].2])] _ rfl (by kernel_rfl) (by simp) ?_ ?_
      · intro i o ho hi u g ww hbw hd
        have hall : Below wo.heap.size wo ww := hbw
        have hlow : wo.heap.size ≤ ww.heap.size := hall.size
        obtain ⟨hcl, hfr⟩ := bcell hbw
        have y_hcell := (hcl _ _ (by omega)).trans hcell
        have y_hcell2 := (hcl _ _ (by omega)).trans hcell2
        have y_hcell3 := (hcl _ _ (by omega)).trans hcell3
        have y_hcell4 := (hcl _ _ (by omega)).trans hcell4
        clear hcl hfr
        rcases i with _ | _ | _ | _ | _ | _ | _ | _ | _ | i
        all_goals try obtain rfl := Option.some.inj ho
        all_goals try simp only [putAll, fillL]
        · go_wp2
          exact ⟨_, rfl, kept0 (Below.refl _ _), rfl⟩
        · go_wp2
          exact ⟨_, rfl, kept0 (Below.refl _ _), rfl⟩
        · have e0 : u 0 = .slice (some ⟨bl, off, none⟩) ps.length cap := hd 0 (by decide)
          rw [e0]
          have e1 : u 1 = .int .i64 k := hd 1 (by decide)
          rw [e1]
          go_wp2
          exact ⟨_, by simp only [putAll, fillL, e0, e1] <;> rfl, kept0 (Below.refl _ _), rfl⟩
        · have e2 : u 2 = .pointer (some ⟨bl, off + k * 2, none⟩) := hd 2 (by decide)
          rw [e2]
          go_wp2
          exact ⟨_, by simp only [putAll, fillL, e2] <;> rfl, kept0 (Below.refl _ _), rfl⟩
        · go_wp2
          exact ⟨_, rfl, kept0 (Below.refl _ _), rfl⟩
        · go_wp2
          exact ⟨_, rfl, kept0 (Below.refl _ _), rfl⟩
        · have e4 : u 4 = .slice (some ⟨bl2, off2, none⟩) ps.length cap2 := hd 4 (by decide)
          rw [e4]
          have e5 : u 5 = .int .i64 k := hd 5 (by decide)
          rw [e5]
          go_wp2
          exact ⟨_, by simp only [putAll, fillL, e4, e5] <;> rfl, kept0 (Below.refl _ _), rfl⟩
        · have e6 : u 6 = .pointer (some ⟨bl2, off2 + k * 2, none⟩) := hd 6 (by decide)
          rw [e6]
          go_wp2
          exact ⟨_, by simp only [putAll, fillL, e6] <;> rfl, kept0 (Below.refl _ _), rfl⟩
        · exact absurd rfl hi
        · simp at ho
      · intro u g' w3 hbw hR hAp
        have e3 : u 3 = .agg #[.int .i64 ps[k].1, .int .i64 ps[k].2] := hR 3 (by decide) (by decide)
        have e7 : u 7 = .agg #[.int .i64 ps[k].1, .int .i64 ps[k].2] := hR 7 (by decide) (by decide)
        simp only [putAll, fillL]
        rw [e3, e7]
        clear hR hAp e3 e7
        replace hB := bstep hB hbw
        go_wp2
        go_roundw
        case rel => exact ⟨k + 1, by omega, by go_num, hB⟩
        case measure => simp [intOf]; omega
    · obtain rfl : k = ps.length := by omega
      go_wp2
      go_ret
      exact ⟨rfl, hB⟩

end Go.Proofs.Ytpieaeokbblflaa
