/- Covers by plain rectangles, reckoned; conditions: none. -/
import Derived.Test.YtpieaeokbblflaaNeedT
import Derived.Test.YtpieaeokbblflaaPairsC
import Derived.Test.YtpieaeokbblflaaOwn
import Derived.Test.YtpieaeokbblflaaTurn
import Derived.ArgAppend
import Derived.BigRegion
import Derived.BigQuiet
import Derived.WalkSpells
import Derived.Laws.EntriesVeiled
import Derived.Test.YtpieaeokbblflaaPlain
import Derived.Test.YtpieaeokbblflaaI64
import Derived.Maps.OwnSet
import Derived.Test.YtpieaeokbblflaaNeed
namespace Go.Proofs.Ytpieaeokbblflaa
open Go.RowKit

/-- a set has the lowest place of another one -/
def hitB (p s : Nat) : Bool := (s &&& p &&& (2 ^ 64 - p)) != 0
theorem low_place : ∀ p : Nat, 0 < p → ∃ b, p.testBit b = true ∧ (p - 1).testBit b = false ∧ ∀ i, i ≠ b → p.testBit i = true → (p - 1).testBit i = true := by
  intro p
  induction p using Nat.strongRecOn with
  | _ p ih =>
    intro h0
    rcases Nat.mod_two_eq_zero_or_one p with h | h
    · obtain ⟨b, h1, h2, h3⟩ := ih (p / 2) (by omega) (by omega)
      refine ⟨b + 1, ?_, ?_, ?_⟩
      · rw [Nat.testBit_succ]; exact h1
      · rw [Nat.testBit_succ, show (p - 1) / 2 = p / 2 - 1 by omega]; exact h2
      · intro i hi hp
        rcases i with _ | i
        · simp [Nat.testBit_zero] at hp; omega
        · rw [Nat.testBit_succ] at hp ⊢
          rw [show (p - 1) / 2 = p / 2 - 1 by omega]
          exact h3 i (by omega) hp
    · refine ⟨0, by simp [Nat.testBit_zero, h], by simp [Nat.testBit_zero]; omega, ?_⟩
      intro i hi hp
      rcases i with _ | i
      · exact absurd rfl hi
      · rw [Nat.testBit_succ] at hp ⊢
        rw [show (p - 1) / 2 = p / 2 by omega]
        exact hp
theorem hit_place {p : Nat} (h0 : 0 < p) (h1 : p < 2 ^ 62) : ∃ b, p.testBit b = true ∧ ∀ s, hitB p s = s.testBit b := by
  obtain ⟨b, hb1, hb2, hb3⟩ := low_place p h0
  have hb : b < 62 := by
    apply Classical.byContradiction
    intro hn
    have := Nat.testBit_lt_two_pow (Nat.lt_of_lt_of_le h1 (Nat.pow_le_pow_right (by decide) (show 62 ≤ b by omega)))
    rw [hb1] at this
    cases this
  have e : p &&& (2 ^ 64 - p) = 2 ^ b := by
    apply Nat.eq_of_testBit_eq
    intro i
    have h2 : (2 ^ 64 - p).testBit i = (decide (i < 64) && !(p - 1).testBit i) := by
      rw [show 2 ^ 64 - p = 2 ^ 64 - (p - 1 + 1) by omega]
      exact Nat.testBit_two_pow_sub_succ (by omega) i
    rw [Nat.testBit_and, h2, Nat.testBit_two_pow]
    by_cases e : b = i
    · subst e
      simp [hb1, hb2]
      omega
    · cases hp : p.testBit i
      · simp [e]
      · simp [hb3 i (fun h => e h.symm) hp, e]
  refine ⟨b, hb1, fun s => ?_⟩
  unfold hitB
  rw [Nat.and_assoc, e]
  cases h : s.testBit b
  · have : s &&& 2 ^ b = 0 := by
      apply Nat.eq_of_testBit_eq
      intro i
      rw [Nat.testBit_and, Nat.testBit_two_pow, Nat.zero_testBit]
      by_cases e : b = i
      · subst e; simp [h]
      · simp [e]
    rw [this]; rfl
  · have : s &&& 2 ^ b ≠ 0 := by
      intro h0
      have h2 : (s &&& 2 ^ b).testBit b = true := by rw [Nat.testBit_and, Nat.testBit_two_pow, h]; simp
      rw [h0, Nat.zero_testBit] at h2
      cases h2
    simpa using this
/-- the places that are not in a set -/
def lessB (p s : Nat) : Nat := p ^^^ (p &&& s)
theorem lessB_bit (p s i : Nat) : (lessB p s).testBit i = (p.testBit i && !s.testBit i) := by
  unfold lessB
  rw [Nat.testBit_xor, Nat.testBit_and]
  cases p.testBit i <;> cases s.testBit i <;> rfl
theorem lessB_le (p s : Nat) : lessB p s ≤ p := by
  apply Nat.le_of_testBit
  intro i
  rw [lessB_bit]
  cases p.testBit i <;> simp
/-- whether so many sets of a list have all places of a set -/
def covN (L : List Nat) : Nat → Nat → Bool
  | 0, p => p == 0
  | k + 1, p => p == 0 || L.any fun s => hitB p s && covN L k (lessB p s)
theorem cov_iff (L : List Nat) : ∀ (k p : Nat), p < 2 ^ 62 → (covN L k p = true ↔ ∃ S : List Nat, S.length ≤ k ∧ (∀ s ∈ S, s ∈ L) ∧ ∀ b, p.testBit b = true → ∃ s ∈ S, s.testBit b = true)
  | 0, p, hp => by
    unfold covN
    constructor
    · intro h
      have := eq_of_beq h
      subst this
      exact ⟨[], by simp, by simp, fun b hb => by simp at hb⟩
    · rintro ⟨S, h1, h2, h3⟩
      have hS : S = [] := List.length_eq_zero_iff.1 (by omega)
      subst hS
      by_cases h0 : p = 0
      · simp [h0]
      · obtain ⟨b, hb, -⟩ := hit_place (by omega : 0 < p) hp
        obtain ⟨s, hs, -⟩ := h3 b hb
        cases hs
  | k + 1, p, hp => by
    have ih := cov_iff L k
    unfold covN
    constructor
    · intro h
      rw [Bool.or_eq_true] at h
      rcases h with h | h
      · have := eq_of_beq h
        subst this
        exact ⟨[], by simp, by simp, fun b hb => by simp at hb⟩
      · rw [List.any_eq_true] at h
        obtain ⟨s, hs, h⟩ := h
        rw [Bool.and_eq_true] at h
        obtain ⟨S, h1, h2, h3⟩ := (ih (lessB p s) (Nat.lt_of_le_of_lt (lessB_le p s) hp)).1 h.2
        refine ⟨s :: S, by simp; omega, ?_, fun b hb => ?_⟩
        · intro x hx
          rcases List.mem_cons.1 hx with rfl | hx
          · exact hs
          · exact h2 x hx
        · cases e : s.testBit b
          · obtain ⟨x, hx, hxb⟩ := h3 b (by rw [lessB_bit, hb, e]; rfl)
            exact ⟨x, by simp [hx], hxb⟩
          · exact ⟨s, by simp, e⟩
    · rintro ⟨S, h1, h2, h3⟩
      by_cases h0 : p = 0
      · simp [h0]
      · obtain ⟨b, hb, hh⟩ := hit_place (by omega : 0 < p) hp
        obtain ⟨s, hs, hsb⟩ := h3 b hb
        rw [Bool.or_eq_true]
        refine .inr ?_
        rw [List.any_eq_true]
        refine ⟨s, h2 s hs, ?_⟩
        rw [Bool.and_eq_true]
        refine ⟨by rw [hh]; exact hsb, (ih _ (Nat.lt_of_le_of_lt (lessB_le p s) hp)).2 ⟨S.erase s, ?_, fun x hx => h2 x (List.mem_of_mem_erase hx), fun c hc => ?_⟩⟩
        · rw [List.length_erase_of_mem hs]; omega
        · rw [lessB_bit, Bool.and_eq_true] at hc
          obtain ⟨x, hx, hxc⟩ := h3 c hc.1
          refine ⟨x, ?_, hxc⟩
          refine (List.mem_erase_of_ne ?_).2 hx
          rintro rfl
          rw [hxc] at hc
          simp at hc
/-- every place of one set lies, by a law of places, in sets of the other list that have all that the first list's have -/
theorem cov_mono {L M : List Nat} {k p q : Nat} (hp : p < 2 ^ 62) (hq : q < 2 ^ 62) (f : Nat → Nat → Prop) (hpq : ∀ b, q.testBit b = true → ∃ a, f a b ∧ p.testBit a = true)
    (hLM : ∀ s ∈ L, ∃ x ∈ M, ∀ a b, f a b → s.testBit a = true → x.testBit b = true) (h : covN L k p = true) : covN M k q = true := by
  obtain ⟨S, h1, h2, h3⟩ := (cov_iff L k p hp).1 h
  refine (cov_iff M k q hq).2 ?_
  have hS : ∀ S : List Nat, (∀ s ∈ S, s ∈ L) → ∃ T : List Nat, T.length = S.length ∧ (∀ x ∈ T, x ∈ M) ∧ ∀ s ∈ S, ∃ x ∈ T, ∀ a b, f a b → s.testBit a = true → x.testBit b = true := by
    intro S
    induction S with
    | nil => intro _; exact ⟨[], rfl, by simp, by simp⟩
    | cons s S ih =>
      intro hs
      obtain ⟨T, t1, t2, t3⟩ := ih fun x hx => hs x (by simp [hx])
      obtain ⟨x, hx, hxs⟩ := hLM s (hs s (by simp))
      refine ⟨x :: T, by simp [t1], ?_, ?_⟩
      · intro y hy
        rcases List.mem_cons.1 hy with rfl | hy
        · exact hx
        · exact t2 y hy
      · intro y hy
        rcases List.mem_cons.1 hy with rfl | hy
        · exact ⟨x, by simp, hxs⟩
        · obtain ⟨z, hz, hzs⟩ := t3 y hy
          exact ⟨z, by simp [hz], hzs⟩
  obtain ⟨T, t1, t2, t3⟩ := hS S h2
  refine ⟨T, by omega, t2, fun b hb => ?_⟩
  obtain ⟨a, hfa, hpa⟩ := hpq b hb
  obtain ⟨s, hs, hsa⟩ := h3 a hpa
  obtain ⟨x, hx, hxs⟩ := t3 s hs
  exact ⟨x, hx, hxs a b hfa hsa⟩
theorem cov_up {L : List Nat} {k p : Nat} (hp : p < 2 ^ 62) {n : Nat} (h : k ≤ n) (hc : covN L k p = true) : covN L n p = true := by
  obtain ⟨S, h1, h2, h3⟩ := (cov_iff L k p hp).1 hc
  exact (cov_iff L n p hp).2 ⟨S, by omega, h2, h3⟩

/-- the least number for which a law holds -/
def leastK (f : Nat → Bool) : Nat := ((List.range 17).find? f).getD 0
theorem leastK_eq {f : Nat → Bool} {k : Nat} (hk : k < 17) (h1 : ∀ j, j < k → f j = false) (h2 : f k = true) : leastK f = k := by
  unfold leastK
  have : (List.range 17).find? f = some k := by
    rw [List.find?_range_eq_some]
    exact ⟨h2, List.mem_range.2 hk, fun j hj => by simp [h1 j hj]⟩
  rw [this]
  rfl
end Go.Proofs.Ytpieaeokbblflaa
/- Fooling lists, reckoned, and appending to lists of pairs; conditions: none. -/
namespace Go.Proofs.Ytpieaeokbblflaa
open Go.RowKit

/-- out = append(out, pair): the world in which the new pair has been laid -/
theorem wp_append_pair {ops : Array Oper} {rest : List Oper} {o : Oper} {a : Act} {Q : Exit → Act → World → Prop} (w : World) (x y : Int) (hgd : o.guard = none) (s e : Operand)
    (ho : o.op = .call { callee := .builtin .append, args := #[s, e], argTypes := #[36, 36] }) (B : Nat) (v : Value) (ps : List (Int × Int)) (hs : a.eval s = v) (hown : OwnPr w B v ps)
    {g : Nat} (hx : a.eval e = .slice (some ⟨g, 0, none⟩) 1 1) (hg : g = w.heap.size) (hlen : ps.length < 1099511627776) (hB : B ≤ w.heap.size)
    (h : ∀ v' w', OwnPr w' B v' (ps ++ [(x, y)]) → w.grownBy w' v.ownBlock → Below B w w' → wpList Try.prog ops Q rest (a.put o.dst v') w') :
    wpList Try.prog ops Q (o :: rest) a (w.alloc (.cells #[.int .i64 x, .int .i64 y] 76)) := by
  subst hg
  obtain ⟨i0, hi, hz0, hz1, hz2⟩ := info_parts info_pair
  have hal := World.grownBy_alloc w (.cells #[.int .i64 x, .int .i64 y] 76) none
  refine wpList_append_own _ hgd s e 36 ho B 76 i0 _ 2 16 Try.underlying36 hi hz0 hz1 hz2 rfl (by decide) v ps.length ((flat ps).map (Value.int .i64)) hs (hown.1.alloc _) ⟨w.heap.size, 0, none⟩ 1 1 [.int .i64 x, .int .i64 y] hx rfl ?_ ?_
    (by unfold maxLen; omega) (by omega) (by simp; omega) fun v' w' h1 h2 h3 => ?_
  · intro j u hu
    rw [Addr.add_lit, World.cell?_alloc_at _ _ _ _ rfl]
    rcases j with _ | _ | j
    · simpa using hu
    · simpa using hu
    · simp at hu
  · intro u hu
    simp at hu
    rcases hu with rfl | rfl <;> rfl
  · have hgr := grown_trans hal h2
    refine h v' w' ⟨?_, by simp; omega⟩ hgr ((Below.refl _ _).grown hgr hB fun k hk => (OwnD.lt hown k hk).1)
    have e : (flat (ps ++ [(x, y)])).map (Value.int .i64) = (flat ps).map (Value.int .i64) ++ [.int .i64 x, .int .i64 y] := by rw [flat_app]; simp [flat]
    rw [e]
    simpa using h1
theorem ownPr_empty (w : World) (B : Nat) (hB : B ≤ w.heap.size) : OwnPr (w.alloc (.cells #[] 76)) B (.slice (some ⟨w.heap.size, 0, none⟩) 0 0) [] :=
  ⟨by simpa [flat] using World.ownsRow_made w #[] 0 hB (Nat.zero_le _) (by simp), by simp⟩
theorem ownPr_nil (w : World) (B : Nat) : OwnPr w B (.slice none 0 0) [] := ⟨by simpa [flat] using World.ownsRow_nil w B 76 2, by simp⟩


/-- out = append(out, pairs...) -/
theorem wp_append_pairs {ops : Array Oper} {rest : List Oper} {o : Oper} {a : Act} {Q : Exit → Act → World → Prop} (w : World) (hgd : o.guard = none) (s x : Operand)
    (ho : o.op = .call { callee := .builtin .append, args := #[s, x], argTypes := #[36, 36] }) (B : Nat) (v : Value) (ps : List (Int × Int)) (hs : a.eval s = v) (hown : OwnPr w B v ps)
    (u : Value) (qs : List (Int × Int)) (hx : a.eval x = u) (hy : Pairs w u qs) (hlen : ps.length + qs.length ≤ 1048576) (hB : B ≤ w.heap.size)
    (h : ∀ v' w', OwnPr w' B v' (ps ++ qs) → w.grownBy w' v.ownBlock → Below B w w' → wpList Try.prog ops Q rest (a.put o.dst v') w') :
    wpList Try.prog ops Q (o :: rest) a w := by
  obtain ⟨ad, cap, rfl, hl, hc⟩ := hy
  obtain ⟨i0, hi, hz0, hz1, hz2⟩ := info_parts info_pair
  by_cases h0 : qs.length = 0
  · have : qs = [] := List.length_eq_zero_iff.1 h0
    subst this
    cases ad with
    | none =>
      have hcap : cap = cap := rfl
      refine wp_append_nothing hgd s x 36 ho B 76 i0 2 Try.underlying36 hi v ps.length cap ((flat ps).map (Value.int .i64)) hs (by simpa using hown.1) (by simpa using hx) ?_
      exact h v w (by simpa using hown) ⟨rfl, rfl, rfl, Nat.le_refl _, fun _ _ _ => rfl⟩ (Below.refl _ _)
    | some ad =>
      refine wpList_append_own _ hgd s x 36 ho B 76 i0 _ 2 16 Try.underlying36 hi hz0 hz1 hz2 rfl (by decide) v ps.length ((flat ps).map (Value.int .i64)) hs hown.1 ad 0 cap [] (by simpa using hx) rfl (by simp) (by simp)
        (by unfold maxLen; omega) (by omega) (by omega) fun v' w' h1 h2 h3 => ?_
      exact h v' w' ⟨by simpa using h1, by simp; omega⟩ h2 ((Below.refl _ _).grown h2 hB fun k hk => (OwnD.lt hown k hk).1)
  · have hf : 0 < (flat qs).length := by rw [flat_len]; omega
    obtain ⟨b, off, rfl, -, -⟩ := hc 0 hf
    refine wpList_append_own _ hgd s x 36 ho B 76 i0 _ 2 16 Try.underlying36 hi hz0 hz1 hz2 rfl (by decide) v ps.length ((flat ps).map (Value.int .i64)) hs hown.1 ⟨b, off, none⟩ qs.length cap ((flat qs).map (Value.int .i64)) hx (by rw [List.length_map, flat_len]; omega) ?_ ?_
      (by unfold maxLen; omega) (by omega) (by omega) fun v' w' h1 h2 h3 => ?_
    · intro j u hu
      simp only [List.getElem?_map, Option.map_eq_some_iff] at hu
      obtain ⟨y, hy', rfl⟩ := hu
      obtain ⟨hj, rfl⟩ := List.getElem?_eq_some_iff.1 hy'
      obtain ⟨b', off', e, -, hc'⟩ := hc j hj
      cases e
      rw [Addr.add_lit]
      exact hc'
    · intro u hu
      obtain ⟨y, -, rfl⟩ := List.mem_map.1 hu
      rfl
    · exact h v' w' ⟨by rw [flat_app, List.map_append, List.length_append]; exact h1, by simp; omega⟩ h2 ((Below.refl _ _).grown h2 hB fun k hk => (OwnD.lt hown k hk).1)

/-! the plain law -/
def ok2 (t : List (List Int)) (bit : Int) (m a b : Nat) : Bool := (ent t (a / m) (b % m) != bit) || (ent t (b / m) (a % m) != bit)
def isAt (t : List (List Int)) (bit : Int) (m a : Nat) : Bool := ent t (a / m) (a % m) == bit
def fits2 (t : List (List Int)) (bit : Int) (m : Nat) (L : List Nat) (a : Nat) : Bool := L.all (ok2 t bit m a)
def fits1 (t : List (List Int)) (bit : Int) (m : Nat) (L : List Nat) (a : Nat) : Bool := isAt t bit m a && fits2 t bit m L a
def longer (b x : List Nat) : List Nat := if b.length < x.length then x else b
def loopF (fit : List Nat → Nat → Bool) : List Nat → List Nat → List Nat → List Nat
  | [], _, best => best
  | a :: rest, L, best => loopF fit rest L (if fit L a then longer best (loopF fit rest (L ++ [a]) (L ++ [a])) else best)
def rng (a N : Nat) : List Nat := List.range' a (N - a)
theorem rng_next {a N : Nat} (h : a < N) : rng a N = a :: rng (a + 1) N := by
  unfold rng
  rw [show N - a = (N - (a + 1)) + 1 by omega, List.range'_succ]
theorem rng_end (N : Nat) : rng N N = [] := by simp [rng]
theorem longer_assoc (a b c : List Nat) : longer (longer a b) c = longer a (longer b c) := by
  unfold longer
  by_cases h1 : a.length < b.length <;> by_cases h2 : b.length < c.length <;> by_cases h3 : a.length < c.length <;> simp [h1, h2, h3] <;> omega
theorem loop_longer (fit : List Nat → Nat → Bool) : ∀ (rest L x y : List Nat), loopF fit rest L (longer x y) = longer x (loopF fit rest L y)
  | [], L, x, y => rfl
  | a :: rest, L, x, y => by
    unfold loopF
    split
    · rw [longer_assoc, loop_longer fit rest]
    · rw [loop_longer fit rest]
theorem loop_filter (t : List (List Int)) (bit : Int) (m : Nat) : ∀ (rest L best : List Nat), loopF (fits1 t bit m) rest L best = loopF (fits2 t bit m) (rest.filter (isAt t bit m)) L best
  | [], L, best => rfl
  | a :: rest, L, best => by
    cases h : isAt t bit m a
    · rw [List.filter_cons_of_neg (by simp [h])]
      conv => lhs; unfold loopF
      rw [if_neg (by simp [fits1, h]), loop_filter t bit m rest]
    · rw [List.filter_cons_of_pos h]
      conv => lhs; unfold loopF
      conv => rhs; unfold loopF
      rw [show fits1 t bit m L a = fits2 t bit m L a by simp [fits1, h], loop_filter t bit m rest, loop_filter t bit m rest]
theorem loop_len (fit : List Nat → Nat → Bool) : ∀ (rest L best : List Nat) (n : Nat), best.length ≤ n → L.length + rest.length ≤ n → (loopF fit rest L best).length ≤ n
  | [], L, best, n, h1, h2 => h1
  | a :: rest, L, best, n, h1, h2 => by
    simp only [List.length_cons] at h2
    unfold loopF
    refine loop_len fit rest L _ n ?_ (by omega)
    split
    · unfold longer
      split
      · exact loop_len fit rest (L ++ [a]) (L ++ [a]) n (by simp; omega) (by simp; omega)
      · exact h1
    · exact h1
/-- the pair of a place -/
def prC (m a : Nat) : Int × Int := (((a / m : Nat) : Int), ((a % m : Nat) : Int))
def prL (m : Nat) (L : List Nat) : List (Int × Int) := L.map (prC m)
def foolB (t : List (List Int)) (bit : Int) : Bool := taskB t && inB 0 1 bit
def foolL (t : List (List Int)) (bit : Int) : List (Int × Int) := if foolB t bit then prL (wid t) (loopF (fits1 t bit (wid t)) (rng 0 (t.length * wid t)) [] []) else []
end Go.Proofs.Ytpieaeokbblflaa
/- Fooling lists on the reference's side; conditions: none. -/
namespace Go.Proofs.Ytpieaeokbblflaa
open Go.RowKit

theorem prL_len (m : Nat) (L : List Nat) : (prL m L).length = L.length := by simp [prL]
theorem prL_app (m : Nat) (L : List Nat) (a : Nat) : prL m L ++ [prC m a] = prL m (L ++ [a]) := by simp [prL]
theorem all_take_next (p : Nat → Bool) (L : List Nat) (k : Nat) (h : k < L.length) : (L.take (k + 1)).all p = ((L.take k).all p && p L[k]) := by
  rw [show L.take (k + 1) = L.take k ++ [L[k]] by simp, List.all_append]
  simp
theorem all_take_false (p : Nat → Bool) (L : List Nat) (k : Nat) (h : (L.take k).all p = false) : L.all p = false := by
  rw [List.all_eq_false] at h ⊢
  obtain ⟨x, hx, hp⟩ := h
  exact ⟨x, List.mem_of_mem_take hx, hp⟩
theorem loop_no {fit : List Nat → Nat → Bool} {a N : Nat} {L b R : List Nat} (ha : a < N) (h : loopF fit (rng a N) L b = R) (hf : fit L a = false) : loopF fit (rng (a + 1) N) L b = R := by
  rw [rng_next ha] at h
  unfold loopF at h
  rwa [if_neg (by simp [hf])] at h
theorem loop_yes {fit : List Nat → Nat → Bool} {a N : Nat} {L b R : List Nat} (ha : a < N) (h : loopF fit (rng a N) L b = R) (hf : fit L a = true) : loopF fit (rng (a + 1) N) L (longer b (loopF fit (rng (a + 1) N) (L ++ [a]) (L ++ [a]))) = R := by
  rw [rng_next ha] at h
  unfold loopF at h
  rwa [if_pos hf] at h


set_option maxRecDepth 100000 in
set_option maxHeartbeats 2000000 in
theorem c_l8Fool (t : List (List Int)) (bit : Int) (tv : Value) (ht : taskB t = true) : ∀ (d from' : Nat) (L : List Nat) (v : Value) (w : World) (B : Nat), t.length * wid t - from' = d → from' ≤ t.length * wid t → Rows2 w tv t → OwnPr w B v (prL (wid t) L) → L.length ≤ from' → (∀ x ∈ L, x < t.length * wid t) → B ≤ w.heap.size →
    Calls Try.prog 117 #[tv, .int .i64 bit, v, .int .i64 from'] w fun e w' => ∃ v', e = .returned v' ∧ OwnPr w' B v' (prL (wid t) (loopF (fits1 t bit (wid t)) (rng from' (t.length * wid t)) L L)) ∧ Below w.heap.size w w' := by
  intro d
  induction d using Nat.strongRecOn with
  | _ d ih =>
    intro from' L v w B hd hfr h hv0 hLl hLm hBw
    obtain ⟨ad, cap, rfl, hl⟩ := h.out
    obtain ⟨hn, hm, hrow, h01⟩ := taskB_yes ht
    obtain ⟨bl0, off0, a0, c0, rfl, hb0, hcell0, hi0⟩ := h.at0 (by omega)
    clear hcell0 hi0 h01
    obtain ⟨N, hN⟩ : ∃ z, z = t.length * wid t := ⟨_, rfl⟩
    rw [← hN] at hd hfr hLm ih ⊢
    have hNm : ((t.length : Int) * (wid t : Int)) = (N : Int) := by rw [hN]; simp
    have hN16 : N ≤ 16 := by rw [hN]; exact Nat.mul_le_mul hn.2 hm.2
    obtain ⟨R, hR⟩ : ∃ z, z = loopF (fits1 t bit (wid t)) (rng from' N) L L := ⟨_, rfl⟩
    rw [← hR]
    have hR0 : Hid (loopF (fits1 t bit (wid t)) (rng from' N) L L = R) := Lib.hid hR.symm
    have hLl16 : L.length ≤ 16 := by omega
    clear hR
    obtain ⟨aB, cB, rfl, -⟩ := hv0.pairs.out
    rw [prL_len] at hv0 ⊢
    replace hN := Lib.hid hN
    replace hrow := Lib.hid hrow
    replace ih := Lib.hid ih
    replace hLm := Lib.hid hLm
    replace ht := Lib.hid ht
    have hB0 := Below.refl w.heap.size w
    go_enter Try.func117, Try.ntmps117
    go_wp2_with fail
    go_loopw [9, 10] (fun v i wr => ∃ (a : Nat) (b : List Nat), from' ≤ a ∧ a ≤ N ∧ i = .int .i64 a ∧ OwnPr wr B v (prL (wid t) b) ∧ Hid (loopF (fits1 t bit (wid t)) (rng a N) L b = R) ∧ b.length ≤ 16 ∧ Below w.heap.size w wr) (fun _ i _ => N - (intOf i).toNat)
    case atStart => exact ⟨from', L, Nat.le_refl _, hfr, rfl, hv0, hR0, hLl16, hB0⟩
    case round =>
      clear hB0 hR0
      obtain ⟨a, b, ha1, ha2, rfl, hown, hRa, hbl, hB⟩ := hrel
      have hsz := hB.size
      have hr := h.below hB
      obtain ⟨aV, cV, rfl, -⟩ := hown.pairs.out
      rw [prL_len] at hown ⊢
      obtain ⟨bl', off', a1, c1, e, hb1', hcell1, hi1⟩ := hr.at0 (by omega)
      simp only [Option.some.injEq, Addr.mk.injEq, and_true] at e
      obtain ⟨rfl, rfl⟩ := e
      clear hi1
      by_cases hlt : a < N
      · have hda : decide ((a : Int) < (N : Int)) = true := by simp; omega
        obtain ⟨i, hi⟩ : ∃ z, z = a / wid t := ⟨_, rfl⟩
        obtain ⟨j, hj⟩ : ∃ z, z = a % wid t := ⟨_, rfl⟩
        have hiN : i < t.length := by rw [hi]; exact Nat.div_lt_of_lt_mul (by rw [Nat.mul_comm, ← hN.out]; exact hlt)
        have hjm : j < wid t := by rw [hj]; exact Nat.mod_lt _ (by omega)
        have q1 : (a : Int) / (wid t : Int) = (i : Int) := by rw [hi]; simp
        have q2 : (a : Int) % (wid t : Int) = (j : Int) := by rw [hj]; simp
        have q3 : (a : Int).tdiv (wid t : Int) = (i : Int) := by rw [hi]; rfl
        have q4 : (a : Int).tmod (wid t : Int) = (j : Int) := by rw [hj]; rfl
        have hm0 : ((wid t : Int) == 0) = false := by simp; omega
        have hm1 : (wid t : Int) ≠ 0 := by omega
        replace hi := Lib.hid hi
        replace hj := Lib.hid hj
        go_wp2_with fail
        go_quiet (fail)
        generalize hwd : World.drewN _ _ = wd
        have hD := fun q => below_drewN (Below.refl wr.heap.size wr) q
        replace hD : Below wr.heap.size wr wd := hwd ▸ hD _
        have hB2 := bstep hB hD
        have hown2 : OwnPr wd B (.slice aV b.length cV) (prL (wid t) b) := OwnD.below hown hD
        have hr2 := hr.below hD
        have hszd := hB2.size
        clear hwd hcell1 hr hown hB hD q1 q2 q3 q4 hm0 hm1
        obtain ⟨bl', off', a1, c1, e, hb1', hcell1, hi1⟩ := hr2.at i hiN
        simp only [Option.some.injEq, Addr.mk.injEq, and_true] at e
        obtain ⟨rfl, rfl⟩ := e
        rw [hrow.out i hiN] at hcell1 hi1
        have hjl : j < t[i].length := by rw [hrow.out i hiN]; exact hjm
        obtain ⟨b2, o2, rfl, hb2, hc2⟩ := hi1.at j hjl
        rw [ent_eq t i j hiN hjl] at hc2
        obtain ⟨x0, hx0⟩ : ∃ z, z = (ent t i j == bit) := ⟨_, rfl⟩
        have hisA : Hid (isAt t bit (wid t) a = x0) := Lib.hid (by unfold isAt; rw [← hi.out, ← hj.out, hx0])
        have hx0' : (ent t i j == bit) = x0 := hx0.symm
        clear hx0 hi1
        go_wp2_with fail
        clear hx0' hc2 hcell1
        go_loopw [13, 14] (fun f q wr => ∃ k : Nat, k ≤ L.length ∧ q = .int .i64 k ∧ f = .bool (x0 && (L.take k).all (ok2 t bit (wid t) a)) ∧ Below wd.heap.size wd wr) (fun _ q _ => L.length - (intOf q).toNat)
        case atStart => exact ⟨0, Nat.zero_le _, rfl, by simp, Below.refl _ _⟩
        case round =>
          obtain ⟨k, hk, rfl, rfl, hB⟩ := hrel
          cases hv : (x0 && (L.take k).all (ok2 t bit (wid t) a))
          · have hno : fits1 t bit (wid t) L a = false := by
              unfold fits1 fits2
              rw [hisA.out]
              cases x0
              · rfl
              · rw [Bool.true_and] at hv
                rw [all_take_false _ _ _ hv]
                rfl
            have hRn := Lib.hid (loop_no hlt hRa.out hno)
            replace hown := OwnD.below hown2 hB
            replace hB := bstep hB2 hB
            clear hv hno hown2 hB2 hr2
            by_cases hlk : k < L.length
            · have hdk : decide ((k : Int) < (L.length : Int)) = true := by simp; omega
              go_wp2
              go_roundw
              case rel => first | exact ⟨a + 1, b, by omega, by omega, by go_num, hown, hRn, hbl, hB⟩ | ((repeat apply Exists.intro); exact ⟨⟨a + 1, b, by omega, by omega, rfl, hown, hRn, hbl, hB⟩, rfl⟩)
              case measure => simp [intOf]; omega
            · obtain rfl : k = L.length := by omega
              go_wp2
              go_roundw
              case rel => first | exact ⟨a + 1, b, by omega, by omega, by go_num, hown, hRn, hbl, hB⟩ | ((repeat apply Exists.intro); exact ⟨⟨a + 1, b, by omega, by omega, rfl, hown, hRn, hbl, hB⟩, rfl⟩)
              case measure => simp [intOf]; omega
          · by_cases hlk : k < L.length
            · have hdk : decide ((k : Int) < (L.length : Int)) = true := by simp; omega
              replace hv := Lib.hid hv
              obtain ⟨q, hq⟩ : ∃ z, z = L[k] := ⟨_, rfl⟩
              have hqN : q < N := by rw [hq]; exact hLm.out _ (List.getElem_mem hlk)
              obtain ⟨bi, hbi⟩ : ∃ z, z = q / wid t := ⟨_, rfl⟩
              obtain ⟨bj, hbj⟩ : ∃ z, z = q % wid t := ⟨_, rfl⟩
              have hbin : bi < t.length := by rw [hbi]; exact Nat.div_lt_of_lt_mul (by rw [Nat.mul_comm, ← hN.out]; exact hqN)
              have hbjm : bj < wid t := by rw [hbj]; exact Nat.mod_lt _ (by omega)
              have hkp : k < (prL (wid t) L).length := by rw [prL_len]; exact hlk
              obtain ⟨gb, go, rfl, hgb, c1, c2⟩ := (hv0.pairs.below (bstep hB2 hB)).at k hkp
              have hpk : (prL (wid t) L)[k] = ((bi : Int), (bj : Int)) := by rw [hbi, hbj, hq]; simp [prL, prC]
              rw [hpk] at c1 c2
              have hr3 := hr2.below hB
              obtain ⟨bl', off', a1, c3, e, hb1', d1, hi1⟩ := hr3.at i hiN
              simp only [Option.some.injEq, Addr.mk.injEq, and_true] at e
              obtain ⟨rfl, rfl⟩ := e
              rw [hrow.out i hiN] at d1 hi1
              have hjl1 : bj < t[i].length := by rw [hrow.out i hiN]; exact hbjm
              obtain ⟨b2, o2, rfl, hb2, d2⟩ := hi1.at bj hjl1
              rw [ent_eq t i bj hiN hjl1] at d2
              obtain ⟨bl', off', a2, c4, e, hb1', d3, hi2⟩ := hr3.at bi hbin
              simp only [Option.some.injEq, Addr.mk.injEq, and_true] at e
              obtain ⟨rfl, rfl⟩ := e
              rw [hrow.out bi hbin] at d3 hi2
              have hjl2 : j < t[bi].length := by rw [hrow.out bi hbin]; exact hjm
              obtain ⟨b3, o3, rfl, hb3, d4⟩ := hi2.at j hjl2
              rw [ent_eq t bi j hbin hjl2] at d4
              have hok0 : ok2 t bit (wid t) a L[k] = ((ent t i bj != bit) || (ent t bi j != bit)) := by unfold ok2; rw [← hq, ← hi.out, ← hj.out, ← hbi, ← hbj]
              obtain ⟨x1, hx1⟩ : ∃ z, z = ent t i bj := ⟨_, rfl⟩
              obtain ⟨x2, hx2⟩ : ∃ z, z = ent t bi j := ⟨_, rfl⟩
              rw [← hx1, ← hx2] at hok0
              rw [← hx1] at d2
              rw [← hx2] at d4
              clear hx1 hx2 hpk hi1 hi2 hkp hq hbi hbj hr3
              cases hq1 : (x1 != bit)
              · cases hq2 : (x2 != bit)
                · have hok : ok2 t bit (wid t) a L[k] = false := by rw [hok0, hq1, hq2]; rfl
                  clear hok0
                  have hK : Hid ((x0 && (L.take (k + 1)).all (ok2 t bit (wid t) a)) = false) := Lib.hid (by rw [all_take_next _ _ _ hlk, ← Bool.and_assoc, hv.out, hok]; rfl)
                  clear hok
                  go_wp2_with fail
                  go_quiet (fail)
                  generalize hwd : World.drewN _ _ = wd2
                  have hD2 := fun q => below_drewN (Below.refl wr.heap.size wr) q
                  replace hD2 : Below wr.heap.size wr wd2 := hwd ▸ hD2 _
                  have hB3 := bstep hB hD2
                  clear hwd c1 c2 d1 d2 d3 d4 hD2 hB
                  go_wp2
                  go_roundw
                  case rel => first | exact ⟨k + 1, by omega, by go_num, by rw [hK.out], hB3⟩ | ((repeat apply Exists.intro); exact ⟨⟨k + 1, by omega, rfl, by rw [hK.out], hB3⟩, rfl⟩)
                  case measure => simp [intOf]; omega
                · have hok : ok2 t bit (wid t) a L[k] = true := by rw [hok0, hq1, hq2]; rfl
                  clear hok0
                  have hK : Hid ((x0 && (L.take (k + 1)).all (ok2 t bit (wid t) a)) = true) := Lib.hid (by rw [all_take_next _ _ _ hlk, ← Bool.and_assoc, hv.out, hok]; rfl)
                  clear hok
                  go_wp2_with fail
                  go_quiet (fail)
                  generalize hwd : World.drewN _ _ = wd2
                  have hD2 := fun q => below_drewN (Below.refl wr.heap.size wr) q
                  replace hD2 : Below wr.heap.size wr wd2 := hwd ▸ hD2 _
                  have hB3 := bstep hB hD2
                  clear hwd c1 c2 d1 d2 d3 d4 hD2 hB
                  go_wp2
                  go_roundw
                  case rel => first | exact ⟨k + 1, by omega, by go_num, by rw [hK.out], hB3⟩ | ((repeat apply Exists.intro); exact ⟨⟨k + 1, by omega, rfl, by rw [hK.out], hB3⟩, rfl⟩)
                  case measure => simp [intOf]; omega
              · have hok : ok2 t bit (wid t) a L[k] = true := by rw [hok0, hq1]; rfl
                clear hok0
                have hK : Hid ((x0 && (L.take (k + 1)).all (ok2 t bit (wid t) a)) = true) := Lib.hid (by rw [all_take_next _ _ _ hlk, ← Bool.and_assoc, hv.out, hok]; rfl)
                clear hok
                go_wp2_with fail
                go_quiet (fail)
                generalize hwd : World.drewN _ _ = wd2
                have hD2 := fun q => below_drewN (Below.refl wr.heap.size wr) q
                replace hD2 : Below wr.heap.size wr wd2 := hwd ▸ hD2 _
                have hB3 := bstep hB hD2
                clear hwd c1 c2 d1 d2 d3 d4 hD2 hB
                go_wp2
                go_roundw
                case rel => first | exact ⟨k + 1, by omega, by go_num, by rw [hK.out], hB3⟩ | ((repeat apply Exists.intro); exact ⟨⟨k + 1, by omega, rfl, by rw [hK.out], hB3⟩, rfl⟩)
                case measure => simp [intOf]; omega
            · obtain rfl : k = L.length := by omega
              rw [List.take_length] at hv
              have hyes : fits1 t bit (wid t) L a = true := by
                unfold fits1 fits2
                rw [hisA.out]
                exact hv
              have hRy := Lib.hid (loop_yes hlt hRa.out hyes)
              replace hown := OwnD.below hown2 hB
              have hr := hr2.below hB
              replace hB := bstep hB2 hB
              clear hv hyes hown2 hB2 hr2
              have hpr : (prC (wid t) a) = ((i : Int), (j : Int)) := by unfold prC; rw [hi.out, hj.out]
              have hL1 : (L ++ [a]).length ≤ a + 1 := by simp; omega
              have hLm1 : ∀ x ∈ L ++ [a], x < N := by
                intro x hx
                rcases List.mem_append.1 hx with h1 | h1
                · exact hLm.out x h1
                · simp at h1; omega
              have hX16 : (loopF (fits1 t bit (wid t)) (rng (a + 1) N) (L ++ [a]) (L ++ [a])).length ≤ 16 := loop_len _ _ _ _ 16 (by simp; omega) (by simp [rng]; omega)
              obtain ⟨X, hX⟩ : ∃ z, z = loopF (fits1 t bit (wid t)) (rng (a + 1) N) (L ++ [a]) (L ++ [a]) := ⟨_, rfl⟩
              rw [← hX] at hRy hX16
              have hrec := ih.out (N - (a + 1)) (by omega) (a + 1) (L ++ [a])
              rw [← hX] at hrec
              have hpv := hv0.pairs.below hB
              replace hX := Lib.hid hX
              replace hrec := Lib.hid hrec
              replace hLm1 := Lib.hid hLm1
              replace hpr := Lib.hid hpr
              have hszr := hB.size
              go_wp2_with (at_builtin; first | (refine wp_append_pairs _ rfl _ _ rfl wr.heap.size _ [] rfl (ownPr_empty wr _ (Nat.le_refl _)) _ (prL (wid t) L) rfl (hpv.below ((Below.refl _ _).alloc (Nat.le_refl _) _)) (by rw [prL_len]; simp; omega) (by simp) ?_; intro v1 w1 hn1 hg1 hb1; rw [List.nil_append] at hn1; have hb1' := ((Below.refl wr.heap.size wr).alloc (Nat.le_refl _) (.cells #[] 76)).trans hb1; clear hb1 hg1; have hs1 := hb1'.size) | (refine wp_append_pair _ (i : Int) (j : Int) rfl _ _ rfl wr.heap.size _ (prL (wid t) L) rfl hn1 rfl (by first | rfl | simp) (by rw [prL_len]; omega) (by omega) ?_; intro v2 w2 hn2 hg2 hb2))
              rw [← hpr.out, prL_app] at hn2
              have hb2' := hb1'.trans hb2
              clear hb2 hg2 hb1' hn1 hs1
              have hs2 := hb2'.size
              have hcall := hrec.out v2 w2 wr.heap.size (by trivial) (by omega) (hr.below hb2') hn2 hL1 hLm1.out (by omega)
              rw [show (((a + 1 : Nat)) : Int) = (a : Int) + 1 from rfl] at hcall
              refine hcall.mono ?_
              rintro e w3 ⟨v3, rfl, hn3, hb3⟩
              have hb3' := bstep hb2' hb3
              have hown3 := OwnD.below hown hb3'
              have hB4 := bstep hB hb3'
              have hn4 : OwnPr w3 B v3 (prL (wid t) X) := OwnD.mono hn3 (by omega)
              clear hn3 hb3 hb2' hb3' hown hB hr hpv hn2 hcall
              obtain ⟨aX, cX, rfl, -⟩ := hn4.pairs.out
              rw [prL_len] at hn4 ⊢
              by_cases hc : b.length < X.length
              · have hdc : decide ((b.length : Int) < (X.length : Int)) = true := by simp; omega
                have hRn : Hid (loopF (fits1 t bit (wid t)) (rng (a + 1) N) L X = R) := Lib.hid (by have := hRy.out; rw [show longer b X = X from if_pos hc] at this; exact this)
                go_wp2
                go_roundw
                case rel => first | exact ⟨a + 1, X, by omega, by omega, by go_num, hn4, hRn, hX16, hB4⟩ | ((repeat apply Exists.intro); exact ⟨⟨a + 1, X, by omega, by omega, rfl, hn4, hRn, hX16, hB4⟩, rfl⟩)
                case measure => simp [intOf]; omega
              · have hdc : decide ((b.length : Int) < (X.length : Int)) = false := by simp; omega
                have hRn : Hid (loopF (fits1 t bit (wid t)) (rng (a + 1) N) L b = R) := Lib.hid (by have := hRy.out; rw [show longer b X = b from if_neg hc] at this; exact this)
                go_wp2
                go_roundw
                case rel => first | exact ⟨a + 1, b, by omega, by omega, by go_num, hown3, hRn, hbl, hB4⟩ | ((repeat apply Exists.intro); exact ⟨⟨a + 1, b, by omega, by omega, rfl, hown3, hRn, hbl, hB4⟩, rfl⟩)
                case measure => simp [intOf]; omega
      · obtain rfl : a = N := by omega
        have hbR : b = R := by have := hRa.out; rw [rng_end] at this; exact this
        subst hbR
        go_wp2
        go_ret
        exact ⟨_, rfl, hown, hB⟩

set_option maxHeartbeats 2000000 in
theorem c_spec_FoolingSet (v : Value) (t : List (List Int)) (bit : Int) (w : World) (h : Rows2 w v t) :
    Calls Try.prog 52 #[v, .int .i64 bit] w fun e w' => ∃ v', e = .returned (.tuple #[v', .bool (foolB t bit)]) ∧ OwnP w' w.heap.size (fun k => w.heap.size ≤ k ∧ k < w'.heap.size) v' (foolL t bit) ∧ Below w.heap.size w w' := by
  obtain ⟨ad, cap, rfl, hl⟩ := h.out
  cases ht : taskB t
  · have hF : Hid (foolL t bit = [] ∧ foolB t bit = false) := Lib.hid (by simp [foolL, foolB, ht])
    replace ht := Lib.hid ht
    go_enter Try.func52, Try.ntmps52
    go_wp2_with fail
    refine (c_l8Task_no _ t _ h).mono ?_
    rintro e w1 ⟨rfl, hb1⟩
    rw [ht.out]
    have hz := hb1.size
    have ho := (ownPr_empty w1 w.heap.size hz).toP
    have hB2 := hb1.alloc hz (.cells #[] 76)
    go_wp2
    go_ret2
    exact ⟨_, by rw [hF.out.2]; rfl, by rw [hF.out.1]; exact ho, hB2⟩
  cases hb : inB 0 1 bit
  · have hF : Hid (foolL t bit = [] ∧ foolB t bit = false) := Lib.hid (by simp [foolL, foolB, hb])
    replace ht := Lib.hid ht
    replace hb := Lib.hid hb
    go_enter Try.func52, Try.ntmps52
    go_wp2_with fail
    refine (c_l8Task_no _ t _ h).mono ?_
    rintro e w1 ⟨rfl, hb1⟩
    rw [ht.out]
    have hz := hb1.size
    have ho := (ownPr_empty w1 w.heap.size hz).toP
    have hB2 := hb1.alloc hz (.cells #[] 76)
    go_wp2_with fail
    refine (c_l1In _ _ _ _).mono ?_
    rintro e _ ⟨rfl, rfl⟩
    rw [hb.out]
    go_wp2
    go_ret2
    exact ⟨_, by rw [hF.out.2]; rfl, by rw [hF.out.1]; exact ho, hB2⟩
  have hF : Hid (foolL t bit = prL (wid t) (loopF (fits1 t bit (wid t)) (rng 0 (t.length * wid t)) [] []) ∧ foolB t bit = true) := Lib.hid (by simp [foolL, foolB, hb, ht])
  have hc := Lib.hid ht
  replace ht := Lib.hid ht
  replace hb := Lib.hid hb
  go_enter Try.func52, Try.ntmps52
  go_wp2_with fail
  refine (c_l8Task_no _ t _ h).mono ?_
  rintro e w1 ⟨rfl, hb1⟩
  rw [ht.out]
  have hz := hb1.size
  have ho := ownPr_empty w1 w.heap.size hz
  have hB2 := hb1.alloc hz (.cells #[] 76)
  have hr2 := h.below hB2
  go_wp2_with fail
  refine (c_l1In _ _ _ _).mono ?_
  rintro e _ ⟨rfl, rfl⟩
  rw [hb.out]
  go_wp2_with fail
  refine (c_l8Fool t bit _ hc.out _ 0 [] _ _ w.heap.size rfl (Nat.zero_le _) hr2 ho (Nat.le_refl _) (by simp) (by simp; omega)).mono ?_
  rintro e w3 ⟨v3, rfl, hn3, hb3⟩
  have hB4 := bstep hB2 hb3
  go_wp2
  go_ret2
  exact ⟨_, by rw [hF.out.2]; rfl, by rw [hF.out.1]; exact OwnPr.toP hn3, hB4⟩
end Go.Proofs.Ytpieaeokbblflaa
/- Fooling lists on the program's side; conditions: none. -/
namespace Go.Proofs.Ytpieaeokbblflaa
open Go.RowKit

def flt (t : List (List Int)) (bit : Int) (m q : Nat) : List Nat := (List.range q).filter (isAt t bit m)
theorem flt_yes {t : List (List Int)} {bit : Int} {m q : Nat} (h : isAt t bit m q = true) : flt t bit m (q + 1) = flt t bit m q ++ [q] := by
  unfold flt
  rw [List.range_succ, List.filter_append]
  simp [h]
theorem flt_no {t : List (List Int)} {bit : Int} {m q : Nat} (h : isAt t bit m q = false) : flt t bit m (q + 1) = flt t bit m q := by
  unfold flt
  rw [List.range_succ, List.filter_append]
  simp [h]
theorem flt_len (t : List (List Int)) (bit : Int) (m q : Nat) : (flt t bit m q).length ≤ q := by
  unfold flt
  exact Nat.le_trans (List.length_filter_le _ _) (by simp)
theorem flt_rng (t : List (List Int)) (bit : Int) (m q : Nat) : (rng 0 q).filter (isAt t bit m) = flt t bit m q := by
  unfold flt rng
  rw [List.range_eq_range']
  rfl
theorem flt_mem {t : List (List Int)} {bit : Int} {m q x : Nat} (h : x ∈ flt t bit m q) : x < q := by
  unfold flt at h
  exact List.mem_range.1 (List.mem_filter.1 h).1
theorem prC_at {m k l : Nat} (hl : l < m) : prC m (k * m + l) = ((k : Int), (l : Int)) := by
  unfold prC
  rw [show (k * m + l) / m = k by rw [Nat.mul_comm, Nat.mul_add_div (by omega), Nat.div_eq_of_lt hl]; omega, show (k * m + l) % m = l by rw [Nat.mul_comm, Nat.mul_add_mod, Nat.mod_eq_of_lt hl]]

theorem c_isBit (x : Int) (w : World) : Calls Try.prog 75 #[.int .i64 x] w fun e w' => e = .returned (.bool (inB 0 1 x)) ∧ w = w' := by
  cases h0 : (x == 0)
  · cases h1 : (x == 1)
    · have hF : Hid (inB 0 1 x = false) := Lib.hid (by
        cases h : inB 0 1 x
        · rfl
        · have := inB_iff.1 h
          have a := beq_eq_false_iff_ne.1 h0
          have b := beq_eq_false_iff_ne.1 h1
          omega)
      go_enter Try.func75, Try.ntmps75
      go_wp2
      go_ret
      exact ⟨by rw [hF.out]; rfl, rfl⟩
    · have hF : Hid (inB 0 1 x = true) := Lib.hid (by rw [eq_of_beq h1]; rfl)
      go_enter Try.func75, Try.ntmps75
      go_wp2
      go_ret
      exact ⟨by rw [hF.out]; rfl, rfl⟩
  · have hF : Hid (inB 0 1 x = true) := Lib.hid (by rw [eq_of_beq h0]; rfl)
    go_enter Try.func75, Try.ntmps75
    go_wp2
    go_ret
    exact ⟨by rw [hF.out]; rfl, rfl⟩

set_option maxRecDepth 100000 in
set_option maxHeartbeats 2000000 in
theorem c_places (v : Value) (t : List (List Int)) (bit : Int) (w : World) (h : Rows2 w v t) (ht : taskB t = true) :
    Calls Try.prog 76 #[v, .int .i64 bit] w fun e w' => ∃ v', e = .returned v' ∧ OwnPr w' w.heap.size v' (prL (wid t) (flt t bit (wid t) (t.length * wid t))) ∧ Below w.heap.size w w' := by
  obtain ⟨ad, cap, rfl, hl⟩ := h.out
  obtain ⟨hn, hm, hrow, h01⟩ := taskB_yes ht
  obtain ⟨bl0, off0, a0, c0, rfl, hb0, hcell0, hi0⟩ := h.at0 (by omega)
  clear hcell0 hi0 h01
  replace hrow := Lib.hid hrow
  replace ht := Lib.hid ht
  go_enter Try.func76, Try.ntmps76
  go_wp2_with fail
  go_loopw [5, 13] (fun v i wr => ∃ k : Nat, k ≤ t.length ∧ i = .int .i64 k ∧ OwnPr wr w.heap.size v (prL (wid t) (flt t bit (wid t) (k * wid t))) ∧ Below w.heap.size w wr) (fun _ i _ => t.length - (intOf i).toNat)
  case atStart => exact ⟨0, by omega, rfl, by rw [Nat.zero_mul]; exact ownPr_empty w _ (Nat.le_refl _), (Below.refl _ _).alloc (Nat.le_refl _) _⟩
  case round =>
    obtain ⟨k, hk, rfl, hown, hB⟩ := hrel
    by_cases hlt : k < t.length
    · have hdk : decide ((k : Int) < (t.length : Int)) = true := by simp; omega
      obtain ⟨bl', off', a1, c1, e, hb1', hcell0, hi0⟩ := h.at k hlt
      simp only [Option.some.injEq, Addr.mk.injEq, and_true] at e
      obtain ⟨rfl, rfl⟩ := e
      rw [hrow.out k hlt] at hcell0 hi0
      have hcell1 := ((bcell hB).1 _ (off0 + k) hb1').trans hcell0
      obtain ⟨wo, rfl⟩ : ∃ wo : World, wo = wr := ⟨_, rfl⟩
      go_wp2_with fail
      clear hcell1
      go_loopw [5, 20] (fun v i wr => ∃ l : Nat, l ≤ wid t ∧ i = .int .i64 l ∧ OwnPr wr w.heap.size v (prL (wid t) (flt t bit (wid t) (k * wid t + l))) ∧ Below w.heap.size w wr) (fun _ i _ => wid t - (intOf i).toNat)
      case atStart => exact ⟨0, by omega, rfl, hown, hB⟩
      case round =>
        clear hown hB
        obtain ⟨l, hl2, rfl, hown, hB⟩ := hrel
        have hi1 := hi0.below hB
        have hsz := hB.size
        by_cases hlm : l < wid t
        · have hdl : decide ((l : Int) < (wid t : Int)) = true := by simp; omega
          have hjl : l < t[k].length := by rw [hrow.out k hlt]; exact hlm
          obtain ⟨b2, o2, e2, hb2, hc2⟩ := hi1.at l hjl
          rw [ent_eq t k l hlt hjl] at hc2
          subst e2
          have hat : isAt t bit (wid t) (k * wid t + l) = (ent t k l == bit) := by
            unfold isAt
            rw [show (k * wid t + l) / wid t = k by rw [Nat.mul_comm, Nat.mul_add_div (by omega), Nat.div_eq_of_lt hlm]; omega, show (k * wid t + l) % wid t = l by rw [Nat.mul_comm, Nat.mul_add_mod, Nat.mod_eq_of_lt hlm]]
          cases hq : (ent t k l == bit)
          · have hf : Hid (flt t bit (wid t) (k * wid t + (l + 1)) = flt t bit (wid t) (k * wid t + l)) := Lib.hid (by rw [show k * wid t + (l + 1) = k * wid t + l + 1 by omega]; exact flt_no (by rw [hat, hq]))
            clear hat
            go_wp2
            go_roundw
            case rel => first | exact ⟨l + 1, by omega, by go_num, by rw [hf.out]; exact hown, hB⟩ | ((repeat apply Exists.intro); exact ⟨⟨l + 1, by omega, rfl, by rw [hf.out]; exact hown, hB⟩, rfl⟩)
            case measure => simp [intOf]; omega
          · have hf : Hid (prL (wid t) (flt t bit (wid t) (k * wid t + (l + 1))) = prL (wid t) (flt t bit (wid t) (k * wid t + l)) ++ [((k : Int), (l : Int))]) := Lib.hid (by rw [show k * wid t + (l + 1) = k * wid t + l + 1 by omega, flt_yes (by rw [hat, hq]), ← prC_at hlm, prL_app])
            have hfl := flt_len t bit (wid t) (k * wid t + l)
            have hkm : k * wid t + l ≤ 20 := by have := Nat.mul_le_mul (show k ≤ 4 by omega) hm.2; omega
            clear hat
            replace hfl := Lib.hid hfl
            replace hkm := Lib.hid hkm
            go_wp2_with (at_builtin; refine wp_append_pair _ (k : Int) (l : Int) rfl _ _ rfl w.heap.size _ (prL (wid t) (flt t bit (wid t) (k * wid t + l))) rfl hown rfl (by first | rfl | simp) (by rw [prL_len]; have a := hfl.out; have b := hkm.out; omega) (by omega) ?_; intro v2 w2 hn2 hg2 hb2)
            rw [← hf.out] at hn2
            have hB3 := hB.trans hb2
            go_roundw
            case rel => first | exact ⟨l + 1, by omega, by go_num, hn2, hB3⟩ | ((repeat apply Exists.intro); exact ⟨⟨l + 1, by omega, rfl, hn2, hB3⟩, rfl⟩)
            case measure => simp [intOf]; omega
        · obtain rfl : l = wid t := by omega
          go_wp2
          go_roundw
          case rel => first | exact ⟨k + 1, by omega, by go_num, by rw [Nat.succ_mul]; exact hown, hB⟩ | ((repeat apply Exists.intro); exact ⟨⟨k + 1, by omega, rfl, by rw [Nat.succ_mul]; exact hown, hB⟩, rfl⟩)
          case measure => simp [intOf]; omega
    · obtain rfl : k = t.length := by omega
      go_wp2
      go_ret
      exact ⟨_, rfl, hown, hB⟩

set_option maxRecDepth 100000 in
theorem c_clone (v : Value) (ps : List (Int × Int)) (w : World) (h : Pairs w v ps) (hn : 0 < ps.length) (hs : ps.length ≤ 1000) :
    Calls Try.prog 116 #[v] w fun e w' => ∃ v', e = .returned v' ∧ OwnPr w' w.heap.size v' ps ∧ Below w.heap.size w w' := by
  have h2 := h
  obtain ⟨ad, cap, rfl, hl⟩ := h.out
  obtain ⟨b, off, rfl, -, -, -⟩ := h2.at 0 hn
  clear h2
  have hnil := fun (w : World) (a : Option Addr) (n c : Nat) => Lib.run_eql_slice_nil (P := Try.prog) w 36 76 a n c 0 0 Try.underlying36
  go_enter Try.func116, Try.ntmps116
  go_wp2_with (at_builtin; refine wp_append_pairs _ rfl _ _ rfl w.heap.size _ [] rfl (ownPr_empty w _ (Nat.le_refl _)) _ ps rfl (h.below ((Below.refl _ _).alloc (Nat.le_refl _) _)) (by simp; omega) (by simp) ?_; intro v1 w1 hn1 hg1 hb1; rw [List.nil_append] at hn1)
  have hb2 := ((Below.refl w.heap.size w).alloc (Nat.le_refl _) (.cells #[] 76)).trans hb1
  go_ret
  exact ⟨_, rfl, hn1, hb2⟩

end Go.Proofs.Ytpieaeokbblflaa
/- Covers by plain rectangles: the reference's lists and the program's; conditions: none. -/
namespace Go.Proofs.Ytpieaeokbblflaa
open Go.RowKit

theorem bitAt_test (i k : Nat) : (bitAt i k == 1) = k.testBit i := by
  rw [Nat.testBit_eq_decide_div_mod_eq]
  unfold bitAt
  have : k / 2 ^ i % 2 = 0 ∨ k / 2 ^ i % 2 = 1 := by omega
  rcases this with h | h <;> simp [h]
/-- all places of a bit in a rectangle -/
def rectOk (t : List (List Int)) (bit : Int) (R C : Nat) : Prop := ∀ i j, i < t.length → j < wid t → R.testBit i = true → C.testBit j = true → ent t i j = bit
theorem ent01 {t : List (List Int)} (ht : taskB t = true) {i j : Nat} (hi : i < t.length) (hj : j < wid t) : ent t i j = 0 ∨ ent t i j = 1 := by
  obtain ⟨-, -, h3, h4⟩ := taskB_yes ht
  have h2 : j < t[i].length := by rw [h3 _ hi]; exact hj
  have := h4 _ hi _ h2
  rw [ent_eq t _ _ hi h2] at this
  exact this
theorem hasP_iff (t : List (List Int)) (R C : Nat) (v : Int) : hasP t R C v t.length 0 = true ↔ ∃ i j, i < t.length ∧ j < wid t ∧ R.testBit i = true ∧ C.testBit j = true ∧ ent t i j = v := by
  unfold hasP rowH selB
  simp only [List.range_zero, List.any_nil, Bool.or_false, List.any_eq_true, List.mem_range, Bool.and_eq_true, bitAt_test, beq_iff_eq]
  constructor
  · rintro ⟨i, hi, j, hj, ⟨h1, h2⟩, h3⟩
    exact ⟨i, j, hi, hj, h1, h2, h3⟩
  · rintro ⟨i, j, hi, hj, h1, h2, h3⟩
    exact ⟨i, hi, j, hj, ⟨h1, h2⟩, h3⟩
theorem bit_of_pos {R n : Nat} (h0 : 0 < R) (hR : R < 2 ^ n) : ∃ i, i < n ∧ R.testBit i = true := by
  obtain ⟨i, hi⟩ := Nat.exists_testBit_of_ne_zero (by omega : R ≠ 0)
  refine ⟨i, ?_, hi⟩
  apply Classical.byContradiction
  intro hn
  have := Nat.testBit_lt_two_pow (Nat.lt_of_lt_of_le hR (Nat.pow_le_pow_right (by decide) (show n ≤ i by omega)))
  rw [hi] at this
  cases this
theorem rect_iff {t : List (List Int)} (ht : taskB t = true) {bit : Int} (hb : bit = 0 ∨ bit = 1) {R C : Nat} (hR0 : 0 < R) (hC0 : 0 < C) (hR : R < 2 ^ t.length) (hC : C < 2 ^ wid t) :
    (plB t R C && (plN t R C == bit)) = true ↔ rectOk t bit R C := by
  obtain ⟨i0, hi0, hi1⟩ := bit_of_pos hR0 hR
  obtain ⟨j0, hj0, hj1⟩ := bit_of_pos hC0 hC
  have h1 := hasP_iff t R C 1
  have h0 := hasP_iff t R C 0
  unfold plB plN
  cases e1 : hasP t R C 1 t.length 0
  · have n1 : ∀ i j, i < t.length → j < wid t → R.testBit i = true → C.testBit j = true → ent t i j = 0 := fun i j a b c d => by
      rcases ent01 ht a b with h | h
      · exact h
      · rw [h1.2 ⟨i, j, a, b, c, d, h⟩] at e1; cases e1
    simp only [Bool.false_eq_true, if_false, Bool.true_and, beq_iff_eq]
    constructor
    · rintro rfl; exact n1
    · intro h
      have := h i0 j0 hi0 hj0 hi1 hj1
      rw [n1 i0 j0 hi0 hj0 hi1 hj1] at this
      exact this
  · obtain ⟨i1, j1, q1, q2, q3, q4, q5⟩ := h1.1 e1
    cases e0 : hasP t R C 0 t.length 0
    · have n0 : ∀ i j, i < t.length → j < wid t → R.testBit i = true → C.testBit j = true → ent t i j = 1 := fun i j a b c d => by
        rcases ent01 ht a b with h | h
        · rw [h0.2 ⟨i, j, a, b, c, d, h⟩] at e0; cases e0
        · exact h
      simp only [if_true, Bool.not_false, Bool.true_and, beq_iff_eq]
      constructor
      · rintro rfl; exact n0
      · intro h
        have := h i0 j0 hi0 hj0 hi1 hj1
        rw [n0 i0 j0 hi0 hj0 hi1 hj1] at this
        exact this
    · obtain ⟨i2, j2, r1, r2, r3, r4, r5⟩ := h0.1 e0
      simp only [if_true, Bool.not_true, Bool.false_and, Bool.false_eq_true, false_iff]
      intro h
      have a := h i1 j1 q1 q2 q3 q4
      have b := h i2 j2 r1 r2 r3 r4
      omega
theorem memL_iff (r : Nat) (a : Int) : ∀ n, a ∈ memL r n ↔ ∃ i, i < n ∧ a = (i : Int) ∧ r.testBit i = true
  | 0 => by simp [memL]
  | n + 1 => by
    have ih := memL_iff r a n
    unfold memL
    rw [bitAt_test]
    cases h : r.testBit n
    · rw [if_neg (by simp)]
      rw [ih]
      constructor
      · rintro ⟨i, h1, h2, h3⟩; exact ⟨i, by omega, h2, h3⟩
      · rintro ⟨i, h1, h2, h3⟩
        refine ⟨i, ?_, h2, h3⟩
        rcases Nat.lt_succ_iff_lt_or_eq.1 h1 with h4 | h4
        · exact h4
        · subst h4; rw [h] at h3; cases h3
    · rw [if_pos rfl, List.mem_append, ih, List.mem_singleton]
      constructor
      · rintro (⟨i, h1, h2, h3⟩ | h1)
        · exact ⟨i, by omega, h2, h3⟩
        · exact ⟨n, by omega, h1, h⟩
      · rintro ⟨i, h1, h2, h3⟩
        rcases Nat.lt_succ_iff_lt_or_eq.1 h1 with h4 | h4
        · exact .inl ⟨i, h4, h2, h3⟩
        · subst h4; exact .inr h2
/-- the reference's test of a column -/
theorem col_iff {t : List (List Int)} (ht : taskB t = true) {bit : Int} (hb : bit = 0 ∨ bit = 1) {R j : Nat} (hR0 : 0 < R) (hR : R < 2 ^ t.length) :
    (plainN t (memL R t.length) [(j : Int)] == bit) = true ↔ ∀ i, i < t.length → R.testBit i = true → ent t i j = bit := by
  obtain ⟨hn, -, -, -⟩ := taskB_yes ht
  have hp := memL_pos hn.2 hR hR0
  obtain ⟨i0, hi0, hi1⟩ := bit_of_pos hR0 hR
  have e1 : firstE t (memL R t.length) [(j : Int)] = entI t (memL R t.length)[0] j := by unfold firstE; simp [List.getD, hp]
  obtain ⟨i1, a1, a2, a3⟩ := (memL_iff R _ _).1 (List.getElem_mem hp)
  have e2 : firstE t (memL R t.length) [(j : Int)] = ent t i1 j := by rw [e1, a2]; rfl
  have key : plainS t (memL R t.length) [(j : Int)] = true ↔ ∀ i, i < t.length → R.testBit i = true → ent t i j = ent t i1 j := by
    unfold plainS rowOk
    rw [e2]
    simp only [List.all_eq_true, beq_iff_eq, List.mem_singleton, forall_eq]
    constructor
    · intro h i hi hr
      exact h (i : Int) ((memL_iff R _ _).2 ⟨i, hi, rfl, hr⟩)
    · intro h a ha
      obtain ⟨i, b1, rfl, b3⟩ := (memL_iff R _ _).1 ha
      exact h i b1 b3
  rw [beq_iff_eq]
  unfold plainN
  rw [e2]
  cases hq : plainS t (memL R t.length) [(j : Int)]
  · rw [if_neg (by simp)]
    constructor
    · intro h; omega
    · intro h
      have : plainS t (memL R t.length) [(j : Int)] = true := key.2 fun i hi hr => (h i hi hr).trans (h i1 a1 a3).symm
      rw [hq] at this
      cases this
  · rw [if_pos rfl]
    have k := key.1 hq
    constructor
    · intro h i hi hr; exact (k i hi hr).trans h
    · intro h; exact h i1 a1 a3

/-! the reference's codes -/
theorem add_two_pow_bit {x a : Nat} (h : x < 2 ^ a) (b : Nat) : (x + 2 ^ a).testBit b = (x.testBit b || decide (b = a)) := by
  have e := Nat.two_pow_add_eq_or_of_lt h 1
  rw [Nat.mul_one] at e
  rw [Nat.add_comm, e, Nat.testBit_or, Nat.testBit_two_pow, Bool.or_comm]
  congr 1
  simp [eq_comm]
def placeS (t : List (List Int)) (bit : Int) (m : Nat) : Nat → Nat
  | 0 => 0
  | a + 1 => if isAt t bit m a then placeS t bit m a + 2 ^ a else placeS t bit m a
theorem placeS_bit (t : List (List Int)) (bit : Int) (m : Nat) : ∀ a, placeS t bit m a < 2 ^ a ∧ ∀ b, (placeS t bit m a).testBit b = (decide (b < a) && isAt t bit m b)
  | 0 => ⟨by simp [placeS], fun b => by simp [placeS]⟩
  | a + 1 => by
    obtain ⟨h1, h2⟩ := placeS_bit t bit m a
    have h3 : 2 ^ (a + 1) = 2 ^ a + 2 ^ a := by rw [Nat.pow_succ]; omega
    unfold placeS
    cases h : isAt t bit m a
    · refine ⟨by rw [if_neg (by simp)]; omega, fun b => ?_⟩
      rw [if_neg (by simp), h2]
      by_cases e : b = a
      · subst e; simp [h]
      · congr 1; simp; omega
    · refine ⟨by rw [if_pos rfl]; omega, fun b => ?_⟩
      rw [if_pos rfl, add_two_pow_bit h1, h2]
      by_cases e : b = a
      · subst e; simp [h]
      · simp only [e, decide_false, Bool.or_false]
        congr 1; simp; omega
def colS (t : List (List Int)) (bit : Int) (R : Nat) : Nat → Nat
  | 0 => 0
  | j + 1 => if plainN t (memL R t.length) [(j : Int)] == bit then colS t bit R j + 2 ^ j else colS t bit R j
theorem colS_bit (t : List (List Int)) (bit : Int) (R : Nat) : ∀ a, colS t bit R a < 2 ^ a ∧ ∀ b, (colS t bit R a).testBit b = (decide (b < a) && (plainN t (memL R t.length) [(b : Int)] == bit))
  | 0 => ⟨by simp [colS], fun b => by simp [colS]⟩
  | a + 1 => by
    obtain ⟨h1, h2⟩ := colS_bit t bit R a
    have h3 : 2 ^ (a + 1) = 2 ^ a + 2 ^ a := by rw [Nat.pow_succ]; omega
    unfold colS
    cases h : (plainN t (memL R t.length) [(a : Int)] == bit)
    · refine ⟨by rw [if_neg (by simp)]; omega, fun b => ?_⟩
      rw [if_neg (by simp), h2]
      by_cases e : b = a
      · subst e; simp [h]
      · congr 1; simp; omega
    · refine ⟨by rw [if_pos rfl]; omega, fun b => ?_⟩
      rw [if_pos rfl, add_two_pow_bit h1, h2]
      by_cases e : b = a
      · subst e; simp [h]
      · simp only [e, decide_false, Bool.or_false]
        congr 1; simp; omega
def codeS (R c m : Nat) : Nat → Nat
  | 0 => 0
  | i + 1 => codeS R c m i + (R / 2 ^ i % 2) * c * 2 ^ (i * m)
theorem codeS_bit {R c m : Nat} (hc : c < 2 ^ m) : ∀ k, codeS R c m k < 2 ^ (k * m) ∧ ∀ i j, j < m → (codeS R c m k).testBit (i * m + j) = (decide (i < k) && R.testBit i && c.testBit j)
  | 0 => ⟨by simp [codeS], fun i j _ => by simp [codeS]⟩
  | k + 1 => by
    obtain ⟨h1, h2⟩ := codeS_bit hc k
    have e1 : codeS R c m (k + 1) = (R / 2 ^ k % 2 * c) <<< (k * m) ||| codeS R c m k := by
      rw [← Nat.shiftLeft_add_eq_or_of_lt h1, Nat.shiftLeft_eq]
      exact Nat.add_comm _ _
    have hr : R / 2 ^ k % 2 = 0 ∨ R / 2 ^ k % 2 = 1 := by omega
    have hx : R / 2 ^ k % 2 * c < 2 ^ m := by
      rcases hr with h | h <;> rw [h] <;> simp <;> first | exact hc | exact Nat.pow_pos (by decide)
    refine ⟨?_, fun i j hj => ?_⟩
    · rw [e1]
      refine Nat.or_lt_two_pow ?_ (Nat.lt_of_lt_of_le h1 (Nat.pow_le_pow_right (by decide) (Nat.mul_le_mul (by omega) (Nat.le_refl _))))
      rw [Nat.shiftLeft_eq, Nat.succ_mul, Nat.add_comm, Nat.pow_add]
      exact Nat.mul_lt_mul_of_pos_right hx (Nat.pow_pos (by decide))
    · rw [e1, Nat.testBit_or, Nat.testBit_shiftLeft, h2 i j hj]
      have hR : R.testBit k = decide (R / 2 ^ k % 2 = 1) := Nat.testBit_eq_decide_div_mod_eq
      rcases Nat.lt_trichotomy i k with h | h | h
      · have : (i + 1) * m ≤ k * m := Nat.mul_le_mul h (Nat.le_refl _)
        rw [Nat.succ_mul] at this
        have : ¬ k * m ≤ i * m + j := by omega
        simp [this, h, show i < k + 1 by omega]
      · subst h
        rw [show i * m + j - i * m = j by omega]
        have : i * m ≤ i * m + j := by omega
        rcases hr with h | h
        · rw [h] at hR
          simp [h, hR]
        · rw [h] at hR
          simp [h, hR]
      · have : (k + 1) * m ≤ i * m := Nat.mul_le_mul h (Nat.le_refl _)
        rw [Nat.succ_mul] at this
        have e : (R / 2 ^ k % 2 * c).testBit (i * m + j - k * m) = false :=
          Nat.testBit_lt_two_pow (Nat.lt_of_lt_of_le hx (Nat.pow_le_pow_right (by decide) (by omega)))
        simp [e, show ¬ i < k by omega, show ¬ i < k + 1 by omega]
def rectS (t : List (List Int)) (bit : Int) : Nat → List Nat
  | 0 => []
  | r + 1 => if 0 < r ∧ 0 < colS t bit r (wid t) then rectS t bit r ++ [codeS r (colS t bit r (wid t)) (wid t) t.length] else rectS t bit r
theorem rectS_iff (t : List (List Int)) (bit : Int) (s : Nat) : ∀ n, s ∈ rectS t bit n ↔ ∃ r, r < n ∧ 0 < r ∧ 0 < colS t bit r (wid t) ∧ s = codeS r (colS t bit r (wid t)) (wid t) t.length
  | 0 => by simp [rectS]
  | n + 1 => by
    have ih := rectS_iff t bit s n
    unfold rectS
    by_cases h : 0 < n ∧ 0 < colS t bit n (wid t)
    · rw [if_pos h, List.mem_append, ih, List.mem_singleton]
      constructor
      · rintro (⟨r, h1, h2⟩ | h1)
        · exact ⟨r, by omega, h2⟩
        · exact ⟨n, by omega, h.1, h.2, h1⟩
      · rintro ⟨r, h1, h2⟩
        rcases Nat.lt_succ_iff_lt_or_eq.1 h1 with h4 | h4
        · exact .inl ⟨r, h4, h2⟩
        · subst h4; exact .inr h2.2.2
    · rw [if_neg h, ih]
      constructor
      · rintro ⟨r, h1, h2⟩; exact ⟨r, by omega, h2⟩
      · rintro ⟨r, h1, h2⟩
        refine ⟨r, ?_, h2⟩
        rcases Nat.lt_succ_iff_lt_or_eq.1 h1 with h4 | h4
        · exact h4
        · subst h4; exact absurd ⟨h2.1, h2.2.1⟩ h

/-! the program's sets -/
def allP (m : Nat) (l : List Nat) : Nat := l.foldl (fun x a => x ||| 2 ^ (4 * (a / m) + a % m)) 0
theorem allP_snoc (m : Nat) (l : List Nat) (a : Nat) : allP m (l ++ [a]) = allP m l ||| 2 ^ (4 * (a / m) + a % m) := by simp [allP]
theorem fold_bit (m : Nat) (b : Nat) : ∀ (l : List Nat) (x : Nat), (l.foldl (fun x a => x ||| 2 ^ (4 * (a / m) + a % m)) x).testBit b = true ↔ x.testBit b = true ∨ ∃ a ∈ l, b = 4 * (a / m) + a % m
  | [], x => by simp
  | a :: l, x => by
    rw [List.foldl_cons, fold_bit m b l, Nat.testBit_or, Nat.testBit_two_pow, Bool.or_eq_true, decide_eq_true_eq]
    constructor
    · rintro ((h | h) | ⟨y, h1, h2⟩)
      · exact .inl h
      · exact .inr ⟨a, by simp, h.symm⟩
      · exact .inr ⟨y, by simp [h1], h2⟩
    · rintro (h | ⟨y, h1, h2⟩)
      · exact .inl (.inl h)
      · rcases List.mem_cons.1 h1 with rfl | h1
        · exact .inl (.inr h2.symm)
        · exact .inr ⟨y, h1, h2⟩
theorem fold_lt {m N : Nat} : ∀ (l : List Nat) (x : Nat), x < 2 ^ N → (∀ a ∈ l, 4 * (a / m) + a % m < N) → l.foldl (fun x a => x ||| 2 ^ (4 * (a / m) + a % m)) x < 2 ^ N
  | [], x, h, _ => h
  | a :: l, x, h, hl => by
    rw [List.foldl_cons]
    exact fold_lt l _ (Nat.or_lt_two_pow h (Nat.pow_lt_pow_right (by decide) (hl a (by simp)))) fun y hy => hl y (by simp [hy])
def setP (R C : Nat) : Nat → Nat
  | 0 => 0
  | i + 1 => if R.testBit i then setP R C i ||| C * 2 ^ (4 * i) else setP R C i
theorem setP_bit {R C : Nat} (hC : C < 2 ^ 4) : ∀ k, setP R C k < 2 ^ (4 * k) ∧ ∀ i j, j < 4 → (setP R C k).testBit (4 * i + j) = (decide (i < k) && R.testBit i && C.testBit j)
  | 0 => ⟨by simp [setP], fun i j _ => by simp [setP]⟩
  | k + 1 => by
    obtain ⟨h1, h2⟩ := setP_bit (R := R) hC k
    have h4 : 2 ^ (4 * k) ≤ 2 ^ (4 * (k + 1)) := Nat.pow_le_pow_right (by decide) (by omega)
    unfold setP
    cases h : R.testBit k
    · rw [if_neg (by simp)]
      refine ⟨by omega, fun i j hj => ?_⟩
      rw [h2 i j hj]
      by_cases e : i = k
      · subst e; simp [h]
      · rw [show decide (i < k + 1) = decide (i < k) by simp; omega]
    · rw [if_pos rfl]
      refine ⟨Nat.or_lt_two_pow (show setP R C k < 2 ^ (4 * (k + 1)) by omega) ?_, fun i j hj => ?_⟩
      · rw [show 4 * (k + 1) = 4 + 4 * k by omega, Nat.pow_add]
        exact Nat.mul_lt_mul_of_pos_right hC (Nat.pow_pos (by decide))
      · rw [Nat.testBit_or, h2 i j hj, ← Nat.shiftLeft_eq, Nat.testBit_shiftLeft]
        rcases Nat.lt_trichotomy i k with h5 | h5 | h5
        · have : ¬ 4 * k ≤ 4 * i + j := by omega
          simp [this, h5, show i < k + 1 by omega]
        · subst h5
          rw [show 4 * i + j - 4 * i = j by omega]
          simp [h]
        · have e : C.testBit (4 * i + j - 4 * k) = false := Nat.testBit_lt_two_pow (Nat.lt_of_lt_of_le hC (Nat.pow_le_pow_right (by decide) (by omega)))
          simp [e, show ¬ i < k by omega, show ¬ i < k + 1 by omega]
def setsR (t : List (List Int)) (bit : Int) (R : Nat) : Nat → List Nat
  | 0 => []
  | c + 1 => if 0 < c ∧ (plB t R c && (plN t R c == bit)) = true then setsR t bit R c ++ [setP R c t.length] else setsR t bit R c
def setsA (t : List (List Int)) (bit : Int) (M : Nat) : Nat → List Nat
  | 0 => []
  | r + 1 => if 0 < r then setsA t bit M r ++ setsR t bit r M else setsA t bit M r
theorem setsR_iff (t : List (List Int)) (bit : Int) (R s : Nat) : ∀ n, s ∈ setsR t bit R n ↔ ∃ c, c < n ∧ 0 < c ∧ (plB t R c && (plN t R c == bit)) = true ∧ s = setP R c t.length
  | 0 => by simp [setsR]
  | n + 1 => by
    have ih := setsR_iff t bit R s n
    unfold setsR
    by_cases h : 0 < n ∧ (plB t R n && (plN t R n == bit)) = true
    · rw [if_pos h, List.mem_append, ih, List.mem_singleton]
      constructor
      · rintro (⟨r, h1, h2⟩ | h1)
        · exact ⟨r, by omega, h2⟩
        · exact ⟨n, by omega, h.1, h.2, h1⟩
      · rintro ⟨r, h1, h2⟩
        rcases Nat.lt_succ_iff_lt_or_eq.1 h1 with h4 | h4
        · exact .inl ⟨r, h4, h2⟩
        · subst h4; exact .inr h2.2.2
    · rw [if_neg h, ih]
      constructor
      · rintro ⟨r, h1, h2⟩; exact ⟨r, by omega, h2⟩
      · rintro ⟨r, h1, h2⟩
        refine ⟨r, ?_, h2⟩
        rcases Nat.lt_succ_iff_lt_or_eq.1 h1 with h4 | h4
        · exact h4
        · subst h4; exact absurd ⟨h2.1, h2.2.1⟩ h
theorem setsA_iff (t : List (List Int)) (bit : Int) (M s : Nat) : ∀ n, s ∈ setsA t bit M n ↔ ∃ r, r < n ∧ 0 < r ∧ s ∈ setsR t bit r M
  | 0 => by simp [setsA]
  | n + 1 => by
    have ih := setsA_iff t bit M s n
    unfold setsA
    by_cases h : 0 < n
    · rw [if_pos h, List.mem_append, ih]
      constructor
      · rintro (⟨r, h1, h2⟩ | h1)
        · exact ⟨r, by omega, h2⟩
        · exact ⟨n, by omega, h, h1⟩
      · rintro ⟨r, h1, h2⟩
        rcases Nat.lt_succ_iff_lt_or_eq.1 h1 with h4 | h4
        · exact .inl ⟨r, h4, h2⟩
        · subst h4; exact .inr h2.2
    · rw [if_neg h, ih]
      constructor
      · rintro ⟨r, h1, h2⟩; exact ⟨r, by omega, h2⟩
      · rintro ⟨r, h1, h2⟩; exact ⟨r, by omega, h2⟩
theorem setsR_len (t : List (List Int)) (bit : Int) (R : Nat) : ∀ n, (setsR t bit R n).length ≤ n
  | 0 => by simp [setsR]
  | n + 1 => by
    have := setsR_len t bit R n
    unfold setsR
    split <;> simp <;> omega
theorem setsA_len (t : List (List Int)) (bit : Int) (M : Nat) : ∀ n, (setsA t bit M n).length ≤ n * M
  | 0 => by simp [setsA]
  | n + 1 => by
    have h1 := setsA_len t bit M n
    have h2 := setsR_len t bit n M
    rw [Nat.succ_mul]
    unfold setsA
    split <;> simp <;> omega
theorem rectS_len (t : List (List Int)) (bit : Int) : ∀ n, (rectS t bit n).length ≤ n
  | 0 => by simp [rectS]
  | n + 1 => by
    have := rectS_len t bit n
    unfold rectS
    split <;> simp <;> omega

/-! both are one -/
theorem div_at {m i j : Nat} (h : j < m) : (i * m + j) / m = i ∧ (i * m + j) % m = j :=
  ⟨by rw [Nat.mul_comm, Nat.mul_add_div (by omega), Nat.div_eq_of_lt h]; omega, by rw [Nat.mul_comm, Nat.mul_add_mod, Nat.mod_eq_of_lt h]⟩
/-- the place of one numbering in the other one -/
def sameAt (n m : Nat) (a b : Nat) : Prop := ∃ i j, i < n ∧ j < m ∧ a = i * m + j ∧ b = 4 * i + j
def refP (t : List (List Int)) (bit : Int) : Nat := placeS t bit (wid t) (t.length * wid t)
def ownP (t : List (List Int)) (bit : Int) : Nat := allP (wid t) (flt t bit (wid t) (t.length * wid t))
def refL (t : List (List Int)) (bit : Int) : List Nat := rectS t bit (2 ^ t.length)
def ownL (t : List (List Int)) (bit : Int) : List Nat := setsA t bit (2 ^ wid t) (2 ^ t.length)
theorem place_lt {n m a : Nat} (hm : 0 < m ∧ m ≤ 4) (hn : n ≤ 4) (h : a < n * m) : a / m < n ∧ a % m < m ∧ 4 * (a / m) + a % m < 16 := by
  have h1 : a / m < n := Nat.div_lt_of_lt_mul (by rw [Nat.mul_comm]; exact h)
  have h2 := Nat.mod_lt a hm.1
  exact ⟨h1, h2, by omega⟩
theorem ownP_bit (t : List (List Int)) (bit : Int) (b : Nat) : (ownP t bit).testBit b = true ↔ ∃ a, a < t.length * wid t ∧ isAt t bit (wid t) a = true ∧ b = 4 * (a / wid t) + a % wid t := by
  unfold ownP allP
  rw [fold_bit]
  simp only [Nat.zero_testBit, Bool.false_eq_true, false_or, flt, List.mem_filter, List.mem_range]
  constructor
  · rintro ⟨a, ⟨h1, h2⟩, h3⟩; exact ⟨a, h1, h2, h3⟩
  · rintro ⟨a, h1, h2, h3⟩; exact ⟨a, ⟨h1, h2⟩, h3⟩
theorem ownP_lt {t : List (List Int)} (ht : taskB t = true) (bit : Int) : ownP t bit < 2 ^ 16 := by
  obtain ⟨hn, hm, -, -⟩ := taskB_yes ht
  exact fold_lt _ _ (by decide) fun a ha => (place_lt ⟨by omega, hm.2⟩ hn.2 (flt_mem ha)).2.2
theorem refP_lt {t : List (List Int)} (ht : taskB t = true) (bit : Int) : refP t bit < 2 ^ 16 := by
  obtain ⟨hn, hm, -, -⟩ := taskB_yes ht
  exact Nat.lt_of_lt_of_le (placeS_bit t bit (wid t) _).1 (Nat.pow_le_pow_right (by decide) (Nat.mul_le_mul hn.2 hm.2))
theorem cover_to {t : List (List Int)} (ht : taskB t = true) {bit : Int} (hb : bit = 0 ∨ bit = 1) (k : Nat) (h : covN (refL t bit) k (refP t bit) = true) : covN (ownL t bit) k (ownP t bit) = true := by
  obtain ⟨hn, hm, -, -⟩ := taskB_yes ht
  have h62 : (2 : Nat) ^ 16 < 2 ^ 62 := by decide
  refine cov_mono (Nat.lt_trans (refP_lt ht bit) h62) (Nat.lt_trans (ownP_lt ht bit) h62) (sameAt t.length (wid t)) ?_ ?_ h
  · intro b hbb
    obtain ⟨a, h1, h2, rfl⟩ := (ownP_bit t bit b).1 hbb
    obtain ⟨p1, p2, -⟩ := place_lt ⟨by omega, hm.2⟩ hn.2 h1
    refine ⟨a, ⟨a / wid t, a % wid t, p1, p2, by rw [Nat.mul_comm]; exact (Nat.div_add_mod a (wid t)).symm, rfl⟩, ?_⟩
    unfold refP
    rw [(placeS_bit t bit (wid t) _).2]
    simp [h1, h2]
  · intro s hs
    obtain ⟨r, h1, h2, h3, rfl⟩ := (rectS_iff t bit s _).1 hs
    obtain ⟨c1, c2⟩ := colS_bit t bit r (wid t)
    have hok : rectOk t bit r (colS t bit r (wid t)) := fun i j hi hj hri hcj => by
      rw [c2 j, Bool.and_eq_true] at hcj
      exact (col_iff ht hb h2 h1).1 hcj.2 i hi hri
    refine ⟨setP r (colS t bit r (wid t)) t.length, (setsA_iff t bit _ _ _).2 ⟨r, h1, h2, (setsR_iff t bit r _ _).2 ⟨_, c1, h3, (rect_iff ht hb h2 h3 h1 c1).2 hok, rfl⟩⟩, ?_⟩
    rintro a b ⟨i, j, hi, hj, rfl, rfl⟩ hab
    rw [(codeS_bit c1 _).2 i j hj] at hab
    rw [(setP_bit (Nat.lt_of_lt_of_le c1 (Nat.pow_le_pow_right (by decide) hm.2)) _).2 i j (by omega)]
    exact hab
theorem cover_from {t : List (List Int)} (ht : taskB t = true) {bit : Int} (hb : bit = 0 ∨ bit = 1) (k : Nat) (h : covN (ownL t bit) k (ownP t bit) = true) : covN (refL t bit) k (refP t bit) = true := by
  obtain ⟨hn, hm, -, -⟩ := taskB_yes ht
  have h62 : (2 : Nat) ^ 16 < 2 ^ 62 := by decide
  refine cov_mono (Nat.lt_trans (ownP_lt ht bit) h62) (Nat.lt_trans (refP_lt ht bit) h62) (fun b a => sameAt t.length (wid t) a b) ?_ ?_ h
  · intro a haa
    unfold refP at haa
    rw [(placeS_bit t bit (wid t) _).2, Bool.and_eq_true, decide_eq_true_eq] at haa
    obtain ⟨p1, p2, -⟩ := place_lt ⟨by omega, hm.2⟩ hn.2 haa.1
    exact ⟨4 * (a / wid t) + a % wid t, ⟨a / wid t, a % wid t, p1, p2, by rw [Nat.mul_comm]; exact (Nat.div_add_mod a (wid t)).symm, rfl⟩, (ownP_bit t bit _).2 ⟨a, haa.1, haa.2, rfl⟩⟩
  · intro s hs
    obtain ⟨r, h1, h2, hs⟩ := (setsA_iff t bit _ _ _).1 hs
    obtain ⟨c, h3, h4, h5, rfl⟩ := (setsR_iff t bit r _ _).1 hs
    have hok := (rect_iff ht hb h2 h4 h1 h3).1 h5
    obtain ⟨c1, c2⟩ := colS_bit t bit r (wid t)
    have hsub : ∀ j, j < wid t → c.testBit j = true → (colS t bit r (wid t)).testBit j = true := fun j hj hc => by
      rw [c2 j, Bool.and_eq_true, decide_eq_true_eq]
      exact ⟨hj, (col_iff ht hb h2 h1).2 fun i hi hr => hok i j hi hj hr hc⟩
    obtain ⟨j0, hj0, hj1⟩ := bit_of_pos h4 h3
    have hc0 : 0 < colS t bit r (wid t) := by
      apply Nat.pos_of_ne_zero
      intro e
      have := hsub j0 hj0 hj1
      rw [e] at this
      simp at this
    refine ⟨codeS r (colS t bit r (wid t)) (wid t) t.length, (rectS_iff t bit _ _).2 ⟨r, h1, h2, hc0, rfl⟩, ?_⟩
    rintro b a ⟨i, j, hi, hj, rfl, rfl⟩ hab
    rw [(setP_bit (Nat.lt_of_lt_of_le h3 (Nat.pow_le_pow_right (by decide) hm.2)) _).2 i j (by omega)] at hab
    rw [(codeS_bit c1 _).2 i j hj]
    simp only [Bool.and_eq_true, decide_eq_true_eq] at hab ⊢
    exact ⟨hab.1, hsub j hj hab.2⟩
theorem cover_same {t : List (List Int)} (ht : taskB t = true) {bit : Int} (hb : bit = 0 ∨ bit = 1) (k : Nat) : covN (refL t bit) k (refP t bit) = covN (ownL t bit) k (ownP t bit) := by
  cases h : covN (ownL t bit) k (ownP t bit)
  · cases h2 : covN (refL t bit) k (refP t bit)
    · rfl
    · rw [cover_to ht hb k h2] at h; cases h
  · exact cover_from ht hb k h
/-- sixteen rectangles are enough -/
theorem cover_16 {t : List (List Int)} (ht : taskB t = true) {bit : Int} (hb : bit = 0 ∨ bit = 1) : covN (ownL t bit) 16 (ownP t bit) = true := by
  obtain ⟨hn, hm, -, -⟩ := taskB_yes ht
  have h62 : (2 : Nat) ^ 16 < 2 ^ 62 := by decide
  refine (cov_iff _ _ _ (Nat.lt_trans (ownP_lt ht bit) h62)).2 ⟨(flt t bit (wid t) (t.length * wid t)).map (fun a => setP (2 ^ (a / wid t)) (2 ^ (a % wid t)) t.length), ?_, ?_, ?_⟩
  · rw [List.length_map]
    have a := flt_len t bit (wid t) (t.length * wid t)
    have b := Nat.mul_le_mul hn.2 hm.2
    omega
  · intro s hs
    obtain ⟨a, ha, rfl⟩ := List.mem_map.1 hs
    obtain ⟨p1, p2, -⟩ := place_lt ⟨by omega, hm.2⟩ hn.2 (flt_mem ha)
    have hat : isAt t bit (wid t) a = true := by unfold flt at ha; exact (List.mem_filter.1 ha).2
    refine (setsA_iff t bit _ _ _).2 ⟨2 ^ (a / wid t), Nat.pow_lt_pow_right (by decide) p1, Nat.pow_pos (by decide), (setsR_iff t bit _ _ _).2 ⟨2 ^ (a % wid t), Nat.pow_lt_pow_right (by decide) p2, Nat.pow_pos (by decide), ?_, rfl⟩⟩
    refine (rect_iff ht hb (Nat.pow_pos (by decide)) (Nat.pow_pos (by decide)) (Nat.pow_lt_pow_right (by decide) p1) (Nat.pow_lt_pow_right (by decide) p2)).2 ?_
    intro i j hi hj h1 h2
    rw [Nat.testBit_two_pow, decide_eq_true_eq] at h1 h2
    subst h1 h2
    exact eq_of_beq hat
  · intro b hbb
    obtain ⟨a, h1, h2, rfl⟩ := (ownP_bit t bit b).1 hbb
    obtain ⟨p1, p2, -⟩ := place_lt ⟨by omega, hm.2⟩ hn.2 h1
    refine ⟨_, List.mem_map.2 ⟨a, ?_, rfl⟩, ?_⟩
    · unfold flt; exact List.mem_filter.2 ⟨List.mem_range.2 h1, h2⟩
    · have hc : 2 ^ (a % wid t) < 2 ^ 4 := Nat.pow_lt_pow_right (by decide) (by omega)
      rw [(setP_bit hc _).2 _ _ (by omega)]
      simp [p1]
/-- the least number of rectangles -/
def coverV (t : List (List Int)) (bit : Int) : Int := if foolB t bit then (leastK (fun k => covN (ownL t bit) k (ownP t bit)) : Int) else 0
end Go.Proofs.Ytpieaeokbblflaa
/- Matrices in memory that are written in place, and the rank of one, reckoned; conditions: none. -/
namespace Go.Proofs.Ytpieaeokbblflaa
open Go.RowKit

theorem set_same {w : World} {a : Addr} {u v : Value} (h : w.cell? a = some u) : (w.setCell a v).cell? a = some v := by first | exact World.cell?_setCell_same _ _ _ h | exact World.cell?_setCell_same _ _ _ _ h
theorem set_other {w : World} {a b : Addr} {v : Value} (h : a ≠ b) : (w.setCell a v).cell? b = w.cell? b := by first | exact World.cell?_setCell_other _ _ _ _ h | exact World.cell?_setCell_other _ _ _ h
/-- a matrix of the call's own: its rows at blocks p of capacities q, behind block g -/
def MatO (w : World) (B g n m : Nat) (p q : Nat → Nat) (M : Nat → Nat → Int) : Prop :=
  (B ≤ g ∧ g < w.heap.size) ∧
  (∀ i, i < n → w.cell? ⟨g, i, none⟩ = some (.slice (some ⟨p i, 0, none⟩) m (q i)) ∧ w.frozen? ⟨g, i, none⟩ = false) ∧
  (∀ i, i < n → B ≤ p i ∧ p i < w.heap.size ∧ p i ≠ g) ∧
  (∀ i j, i < n → j < n → i ≠ j → p i ≠ p j) ∧
  (∀ i k, i < n → k < m → w.cell? ⟨p i, k, none⟩ = some (.int .i64 (M i k)) ∧ w.frozen? ⟨p i, k, none⟩ = false)

theorem MatO.below {w w' : World} {B g n m : Nat} {p q : Nat → Nat} {M : Nat → Nat → Int} (h : MatO w B g n m p q M) (hb : Below w.heap.size w w') : MatO w' B g n m p q M := by
  obtain ⟨h1, h2, h3, h4, h5⟩ := h
  obtain ⟨hc, hf⟩ := bcell hb
  have hs := hb.size
  refine ⟨⟨h1.1, by omega⟩, fun i hi => ?_, fun i hi => ?_, h4, fun i k hi hk => ?_⟩
  · rw [hc _ _ h1.2, hf _ _ h1.2]; exact h2 i hi
  · have := h3 i hi; exact ⟨this.1, by omega, this.2.2⟩
  · rw [hc _ _ (h3 i hi).2.1, hf _ _ (h3 i hi).2.1]; exact h5 i k hi hk

def putM (M : Nat → Nat → Int) (r c : Nat) (y : Int) : Nat → Nat → Int := fun i k => if i = r ∧ k = c then y else M i k
def swp (a b i : Nat) : Nat := if i = a then b else if i = b then a else i
theorem swp_comm (a b : Nat) : swp a b = swp b a := by
  funext i
  unfold swp
  by_cases h1 : i = a <;> by_cases h2 : i = b <;> simp [h1, h2] <;> omega
theorem swp_lt {a b i n : Nat} (ha : a < n) (hb : b < n) (hi : i < n) : swp a b i < n := by unfold swp; split <;> (try split) <;> omega

theorem MatO.put {w : World} {B g n m : Nat} {p q : Nat → Nat} {M : Nat → Nat → Int} (h : MatO w B g n m p q M) {r c : Nat} (hr : r < n) (hc : c < m) (y : Int) :
    MatO (w.setCell ⟨p r, c, none⟩ (.int .i64 y)) B g n m p q (putM M r c y) := by
  obtain ⟨h1, h2, h3, h4, h5⟩ := h
  refine ⟨by simpa [World.setCell] using h1, fun i hi => ?_, fun i hi => ?_, h4, fun i k hi hk => ?_⟩
  · rw [set_other (by intro e; exact (h3 r hr).2.2 (congrArg Addr.block e)), World.frozen?_setCell]; exact h2 i hi
  · simpa [World.setCell] using h3 i hi
  · rw [World.frozen?_setCell]
    refine ⟨?_, (h5 i k hi hk).2⟩
    unfold putM
    by_cases he : i = r ∧ k = c
    · obtain ⟨rfl, rfl⟩ := he
      rw [if_pos ⟨rfl, rfl⟩]
      exact set_same (h5 i k hi hk).1
    · rw [if_neg he, set_other]
      · exact (h5 i k hi hk).1
      · intro e
        have e1 := congrArg Addr.block e
        have e2 := congrArg Addr.off e
        refine he ⟨?_, e2.symm⟩
        by_cases hir : i = r
        · exact hir
        · exact absurd e1 (h4 r i hr hi (fun x => hir x.symm))

theorem MatO.swap {w : World} {B g n m : Nat} {p q : Nat → Nat} {M : Nat → Nat → Int} (h : MatO w B g n m p q M) {a b : Nat} (ha : a < n) (hb : b < n) :
    MatO ((w.setCell ⟨g, a, none⟩ (.slice (some ⟨p b, 0, none⟩) m (q b))).setCell ⟨g, b, none⟩ (.slice (some ⟨p a, 0, none⟩) m (q a))) B g n m (fun i => p (swp a b i)) (fun i => q (swp a b i)) (fun i => M (swp a b i)) := by
  obtain ⟨h1, h2, h3, h4, h5⟩ := h
  have hsz : ((w.setCell ⟨g, a, none⟩ (.slice (some ⟨p b, 0, none⟩) m (q b))).setCell ⟨g, b, none⟩ (.slice (some ⟨p a, 0, none⟩) m (q a))).heap.size = w.heap.size := by simp [World.setCell]
  refine ⟨by rw [hsz]; exact h1, fun i hi => ?_, fun i hi => ?_, fun i j hi hj hne => ?_, fun i k hi hk => ?_⟩
  · rw [World.frozen?_setCell, World.frozen?_setCell]
    refine ⟨?_, (h2 i hi).2⟩
    by_cases eb : i = b
    · subst eb
      by_cases ea : i = a
      · subst ea
        rw [set_same (set_same (h2 i hi).1)]
        simp [swp]
      · rw [set_same (u := .slice (some ⟨p i, 0, none⟩) m (q i))]
        · simp [swp, ea]
        · rw [set_other (by intro e; exact ea (congrArg Addr.off e).symm)]
          exact (h2 i hi).1
    · rw [set_other (by intro e; exact eb (congrArg Addr.off e).symm)]
      by_cases ea : i = a
      · subst ea
        rw [set_same (h2 i hi).1]
        simp [swp]
      · rw [set_other (by intro e; exact ea (congrArg Addr.off e).symm)]
        simp only [swp, if_neg ea, if_neg eb]
        exact (h2 i hi).1
  · rw [hsz]; exact h3 _ (swp_lt ha hb hi)
  · refine h4 _ _ (swp_lt ha hb hi) (swp_lt ha hb hj) ?_
    unfold swp
    split <;> split <;> (try split) <;> (try split) <;> omega
  · have hl := swp_lt ha hb hi
    have hg := (h3 _ hl).2.2
    rw [set_other (by intro e; exact hg (congrArg Addr.block e).symm), set_other (by intro e; exact hg (congrArg Addr.block e).symm), World.frozen?_setCell, World.frozen?_setCell]
    exact h5 _ k hl hk

theorem MatO.cong {w : World} {B g n m : Nat} {p q : Nat → Nat} {M N : Nat → Nat → Int} (h : MatO w B g n m p q M) (e : ∀ i k, i < n → k < m → M i k = N i k) : MatO w B g n m p q N :=
  ⟨h.1, h.2.1, h.2.2.1, h.2.2.2.1, fun i k hi hk => by rw [← e i k hi hk]; exact h.2.2.2.2 i k hi hk⟩

theorem MatO.ofOwn {w : World} {B m : Nat} {F : Nat → Prop} {v : Value} {t : List (List Int)} (h : OwnR w B F v t) (hm : 0 < m) (hn : 0 < t.length) (hl : ∀ i (hi : i < t.length), t[i].length = m) :
    ∃ g p q cap, v = .slice (some ⟨g, 0, none⟩) t.length cap ∧ MatO w B g t.length m p q (ent t) := by
  obtain ⟨vs, hs, hlen, hr, hd, hf, hg⟩ := h
  have hshape : ∃ g cap, v = .slice (some ⟨g, 0, none⟩) vs.length cap ∧ B ≤ g ∧ g < w.heap.size := by
    rcases hs.1.2 with ⟨hv, h0⟩ | ⟨g, cap, cur, hv, hg, hh, -⟩
    · omega
    · exact ⟨g, cap, by simpa using hv, hg, (Array.getElem?_eq_some_iff.1 hh).1⟩
  obtain ⟨g, cap, rfl, hB, hgs⟩ := hshape
  have hrow : ∀ i, ∃ b c, ∀ h1 : i < vs.length, vs[i] = .slice (some ⟨b, 0, none⟩) m c ∧ B ≤ b ∧ b < w.heap.size := by
    intro i
    by_cases h1 : i < vs.length
    · have h2 : i < t.length := by omega
      have hi := hr i h1 h2
      rcases hi.shape with ⟨-, h0⟩ | ⟨b, c, e, hb, hb2⟩
      · have := hl i h2; rw [h0] at this; simp at this; omega
      · exact ⟨b, c, fun _ => ⟨by rw [e, hl i h2], hb, hb2⟩⟩
    · exact ⟨0, 0, fun h => absurd h h1⟩
  obtain ⟨p, hp⟩ := Classical.axiomOfChoice hrow
  obtain ⟨q, hq⟩ := Classical.axiomOfChoice hp
  clear hrow hp
  refine ⟨g, p, q, cap, by rw [hlen], ⟨hB, hgs⟩, fun i hi => ?_, fun i hi => ?_, fun i j hi hj hne e => ?_, fun i k hi hk => ?_⟩
  · have h1 : i < vs.length := by omega
    have hc := hs.cell i h1
    rw [(hq i h1).1] at hc
    exact hc
  · have h1 : i < vs.length := by omega
    obtain ⟨e1, e2, e3⟩ := hq i h1
    refine ⟨e2, e3, fun e => ?_⟩
    refine OwnS.apart (hr i h1 hi) hs (by decide) (g := g) ?_ rfl
    rw [e1, e]
    rfl
  · have h1 : i < vs.length := by omega
    have h2 : j < vs.length := by omega
    refine hd i j h1 h2 hne (p i) ?_ ?_
    · rw [(hq i h1).1]; rfl
    · rw [(hq j h2).1, e]; rfl
  · have h1 : i < vs.length := by omega
    have ho := hr i h1 hi
    rw [(hq i h1).1] at ho
    have hkl : k < t[i].length := by rw [hl i hi]; exact hk
    have := ho.cell k hkl
    rw [ent_eq t i k hi hkl] at this
    exact this

/-- the first place from r on where a test fails (or n) -/
def fnd (z : Nat → Bool) (n : Nat) : Nat → Nat → Nat
  | 0, r => r
  | f + 1, r => if r < n ∧ z r = true then fnd z n f (r + 1) else r
/-- the rows behind row r, made zero at column j; done: rows before I, and of row I the columns before K -/
def elimM (ρ : Int → Int) (M : Nat → Nat → Int) (r j I K : Nat) : Nat → Nat → Int := fun i k => if (r < i ∧ i < I) ∨ (i = I ∧ k < K) then ρ (M i k * M r j - M r k * M i j) else M i k
def swM (M : Nat → Nat → Int) (a b : Nat) : Nat → Nat → Int := fun i => M (swp a b i)
/-- one column -/
def colM (ρ : Int → Int) (n j : Nat) (s : (Nat → Nat → Int) × Nat) : (Nat → Nat → Int) × Nat :=
  if fnd (fun i => s.1 i j == 0) n (n - s.2) s.2 = n then s else (elimM ρ (swM s.1 (fnd (fun i => s.1 i j == 0) n (n - s.2) s.2) s.2) s.2 j n 0, s.2 + 1)
def colsM (ρ : Int → Int) (n : Nat) (M : Nat → Nat → Int) : Nat → (Nat → Nat → Int) × Nat
  | 0 => (M, 0)
  | j + 1 => colM ρ n j (colsM ρ n M j)
def rankM (ρ : Int → Int) (n m : Nat) (M : Nat → Nat → Int) : Nat := (colsM ρ n M m).2

theorem fnd_le (z : Nat → Bool) (n : Nat) : ∀ f r, r ≤ n → r ≤ fnd z n f r ∧ fnd z n f r ≤ n
  | 0, r, h => by simp [fnd, h]
  | f + 1, r, h => by
    unfold fnd
    split
    · next e => have := fnd_le z n f (r + 1) (by omega); omega
    · omega
theorem colsM_rank (ρ : Int → Int) (n : Nat) (M : Nat → Nat → Int) : ∀ j, (colsM ρ n M j).2 ≤ n ∧ (colsM ρ n M j).2 ≤ j
  | 0 => by simp [colsM]
  | j + 1 => by
    have ih := colsM_rank ρ n M j
    unfold colsM colM
    split
    · omega
    · next e =>
      have := fnd_le (fun i => (colsM ρ n M j).1 i j == 0) n (n - (colsM ρ n M j).2) (colsM ρ n M j).2 ih.1
      simp only
      omega
/-- how far the numbers may have grown behind so many rows -/
def big : Nat → Int
  | 0 => 1
  | 1 => 2
  | 2 => 8
  | 3 => 128
  | _ => 32768
theorem prod_bound {a b A : Int} (ha : -A ≤ a ∧ a ≤ A) (hb : -A ≤ b ∧ b ≤ A) : -(A * A) ≤ a * b ∧ a * b ≤ A * A := by
  have hA : 0 ≤ A := by omega
  have h1 : a.natAbs ≤ A.natAbs := by omega
  have h2 : b.natAbs ≤ A.natAbs := by omega
  have h3 := Nat.mul_le_mul h1 h2
  rw [← Int.natAbs_mul] at h3
  have h4 : ((A.natAbs * A.natAbs : Nat) : Int) = A * A := by
    rw [Int.natCast_mul, Int.natAbs_of_nonneg hA]
  omega
def Shrinks (ρ : Int → Int) : Prop := ∀ x, (ρ x).natAbs ≤ x.natAbs
def InM (M : Nat → Nat → Int) (A : Int) : Prop := ∀ i k, -A ≤ M i k ∧ M i k ≤ A
theorem big_step {r : Nat} (hr : r ≤ 3) : 2 * (big r * big r) ≤ big (r + 1) ∧ big r ≤ big (r + 1) ∧ 1 ≤ big r ∧ big r ≤ 128 := by
  have h : r = 0 ∨ r = 1 ∨ r = 2 ∨ r = 3 := by omega
  rcases h with rfl | rfl | rfl | rfl <;> decide
theorem elim_in {ρ : Int → Int} (hρ : Shrinks ρ) {M : Nat → Nat → Int} {r j I K : Nat} (hr : r ≤ 3) (h : InM M (big r)) : InM (elimM ρ M r j I K) (big (r + 1)) := by
  intro i k
  have hs := big_step hr
  unfold elimM
  split
  · have h1 := prod_bound (h i k) (h r j)
    have h2 := prod_bound (h r k) (h i j)
    have h3 := hρ (M i k * M r j - M r k * M i j)
    omega
  · have := h i k; omega
theorem colsM_in {ρ : Int → Int} (hρ : Shrinks ρ) {n : Nat} (hn : n ≤ 4) {M : Nat → Nat → Int} (h : InM M 1) : ∀ j, InM (colsM ρ n M j).1 (big (colsM ρ n M j).2)
  | 0 => h
  | j + 1 => by
    have ih := colsM_in hρ hn h j
    have hr := colsM_rank ρ n M j
    unfold colsM colM
    split
    · exact ih
    · next e =>
      have := fnd_le (fun i => (colsM ρ n M j).1 i j == 0) n (n - (colsM ρ n M j).2) (colsM ρ n M j).2 hr.1
      exact elim_in hρ (by omega) fun i k => ih _ k

/-- two numbers alike modulo 2: the reference's is 0 or 1, the program's may be -1 -/
def Alike (x y : Int) : Prop := (x = 0 ∧ y = 0) ∨ (x = 1 ∧ y = 1) ∨ (x = 1 ∧ y = -1)
theorem alike_step {x a y b x' a' y' b' : Int} (h1 : Alike x x') (h2 : Alike a a') (h3 : Alike y y') (h4 : Alike b b') : Alike ((x * a - y * b) % 2) ((x' * a' - y' * b').tmod 2) := by
  unfold Alike at *
  rcases h1 with ⟨rfl, rfl⟩ | ⟨rfl, rfl⟩ | ⟨rfl, rfl⟩ <;> rcases h2 with ⟨rfl, rfl⟩ | ⟨rfl, rfl⟩ | ⟨rfl, rfl⟩ <;> rcases h3 with ⟨rfl, rfl⟩ | ⟨rfl, rfl⟩ | ⟨rfl, rfl⟩ <;> rcases h4 with ⟨rfl, rfl⟩ | ⟨rfl, rfl⟩ | ⟨rfl, rfl⟩ <;> decide
theorem alike_zero {x y : Int} (h : Alike x y) : (x == 0) = (y == 0) := by
  rcases h with ⟨rfl, rfl⟩ | ⟨rfl, rfl⟩ | ⟨rfl, rfl⟩ <;> rfl
theorem cols_alike (n : Nat) {M : Nat → Nat → Int} (h : ∀ i k, M i k = 0 ∨ M i k = 1) : ∀ j, (∀ i k, Alike ((colsM (fun x => x % 2) n M j).1 i k) ((colsM (fun x => x.tmod 2) n M j).1 i k)) ∧ (colsM (fun x => x % 2) n M j).2 = (colsM (fun x => x.tmod 2) n M j).2
  | 0 => ⟨fun i k => by rcases h i k with e | e <;> simp [colsM, Alike, e], rfl⟩
  | j + 1 => by
    obtain ⟨h1, h2⟩ := cols_alike n h j
    unfold colsM colM
    rw [← h2, ← show (fun i => (colsM (fun x => x % 2) n M j).1 i j == 0) = (fun i => (colsM (fun x => x.tmod 2) n M j).1 i j == 0) from funext fun i => alike_zero (h1 i j)]
    split
    · exact ⟨h1, h2⟩
    · refine ⟨fun i k => ?_, rfl⟩
      simp only [elimM, swM]
      split
      · exact alike_step (h1 _ _) (h1 _ _) (h1 _ _) (h1 _ _)
      · exact h1 _ _
theorem rank_alike (n m : Nat) {M : Nat → Nat → Int} (h : ∀ i k, M i k = 0 ∨ M i k = 1) : rankM (fun x => x % 2) n m M = rankM (fun x => x.tmod 2) n m M := (cols_alike n h m).2
theorem swp_r (a b : Nat) : swp a b b = a := by unfold swp; split <;> (try split) <;> omega
theorem ent01M {t : List (List Int)} (ht : taskB t = true) (i k : Nat) : ent t i k = 0 ∨ ent t i k = 1 := by
  obtain ⟨-, -, hrow, h01⟩ := taskB_yes ht
  by_cases hi : i < t.length
  · by_cases hk : k < t[i].length
    · rw [← ent_eq t i k hi hk]
      exact h01 i hi k hk
    · left
      simp [ent, List.getD, hi, Nat.le_of_not_lt hk]
  · left
    simp [ent, List.getD, Nat.le_of_not_lt hi]
theorem take_next (t : List (List Int)) (k : Nat) (h : k < t.length) : t.take k ++ [t[k]] = t.take (k + 1) := by simp
theorem elim_row {ρ : Int → Int} {M : Nat → Nat → Int} {r j I K k : Nat} (h : r < I) : elimM ρ M r j I K r k = M r k := by
  unfold elimM
  rw [if_neg (by omega)]
theorem elim_at {ρ : Int → Int} {M : Nat → Nat → Int} {r j I K k : Nat} (_ : r < I) (hk : K ≤ k) : elimM ρ M r j I K I k = M I k := by
  unfold elimM
  rw [if_neg (by omega)]
theorem elim_put {ρ : Int → Int} {M : Nat → Nat → Int} {r j I K : Nat} (h : r < I) : putM (elimM ρ M r j I K) I K (ρ (M I K * M r j - M r K * M I j)) = elimM ρ M r j I (K + 1) := by
  funext i k
  unfold putM elimM
  by_cases e : i = I ∧ k = K
  · obtain ⟨rfl, rfl⟩ := e
    rw [if_pos ⟨rfl, rfl⟩, if_pos (by omega)]
  · rw [if_neg e]
    by_cases e2 : (r < i ∧ i < I) ∨ (i = I ∧ k < K)
    · rw [if_pos e2, if_pos (by omega)]
    · rw [if_neg e2, if_neg (by omega)]
theorem put_put (M : Nat → Nat → Int) (r c : Nat) (y z : Int) : putM (putM M r c y) r c z = putM M r c z := by
  funext i k
  unfold putM
  split <;> rfl
theorem elim_first (ρ : Int → Int) (M : Nat → Nat → Int) (r j : Nat) : elimM ρ M r j (r + 1) 0 = M := by
  funext i k
  unfold elimM
  rw [if_neg (by omega)]
theorem elim_next (ρ : Int → Int) (M : Nat → Nat → Int) {r j I m n : Nat} (_ : r < I) : ∀ i k, i < n → k < m → elimM ρ M r j I m i k = elimM ρ M r j (I + 1) 0 i k := by
  intro i k _ hk
  unfold elimM
  by_cases e : (r < i ∧ i < I) ∨ (i = I ∧ k < m)
  · rw [if_pos e, if_pos (by omega)]
  · rw [if_neg e, if_neg (by omega)]
theorem fnd_go {z : Nat → Bool} {n x : Nat} (h : x < n) (hz : z x = true) : fnd z n (n - (x + 1)) (x + 1) = fnd z n (n - x) x := by
  rw [show n - x = (n - (x + 1)) + 1 by omega]
  conv => rhs; unfold fnd
  rw [if_pos ⟨h, hz⟩]
theorem fnd_stop {z : Nat → Bool} {n x : Nat} (h : x < n) (hz : z x = false) : fnd z n (n - x) x = x := by
  rw [show n - x = (n - (x + 1)) + 1 by omega]
  unfold fnd
  rw [if_neg (by simp [hz])]
theorem fnd_end {z : Nat → Bool} {n : Nat} : fnd z n (n - n) n = n := by
  rw [Nat.sub_self]; rfl
theorem shrinks_id : Shrinks (fun x => x) := fun _ => Nat.le_refl _
theorem shrinks_and : Shrinks (fun x => x % 2) := fun x => by simp only; omega
theorem shrinks_rem : Shrinks (fun x => x.tmod 2) := fun x => by
  simp only
  have := Int.natAbs_tmod x 2
  rw [this]
  exact Nat.mod_le _ _
end Go.Proofs.Ytpieaeokbblflaa
/- Ranks: elimination gives as many rows as make all rows, and no fewer do; conditions: none. -/
namespace Go.Proofs.Ytpieaeokbblflaa.Dm
/-- a sum of n numbers -/
def sm (f : Nat → Int) : Nat → Int
  | 0 => 0
  | n + 1 => sm f n + f n
theorem sm_congr {f g : Nat → Int} : ∀ {n : Nat}, (∀ i, i < n → f i = g i) → sm f n = sm g n
  | 0, _ => rfl
  | n + 1, h => by
    simp only [sm]
    rw [sm_congr (fun i hi => h i (by omega)), h n (by omega)]
theorem sm_add (f g : Nat → Int) : ∀ n, sm (fun i => f i + g i) n = sm f n + sm g n
  | 0 => rfl
  | n + 1 => by simp only [sm]; rw [sm_add f g n]; omega
theorem sm_mul (a : Int) (f : Nat → Int) : ∀ n, sm (fun i => a * f i) n = a * sm f n
  | 0 => by simp [sm]
  | n + 1 => by simp only [sm]; rw [sm_mul a f n, Int.mul_add]
theorem sm_mulr (a : Int) (f : Nat → Int) (n : Nat) : sm (fun i => f i * a) n = sm f n * a := by
  rw [sm_congr (g := fun i => a * f i) (fun i _ => Int.mul_comm _ _), sm_mul, Int.mul_comm]
theorem sm_zero {f : Nat → Int} {n : Nat} (h : ∀ i, i < n → f i = 0) : sm f n = 0 := by
  rw [sm_congr (g := fun _ => 0 * 0) (fun i hi => by rw [h i hi]; rfl), sm_mul]; simp
theorem sm_swap (f : Nat → Nat → Int) (n : Nat) : ∀ m, sm (fun i => sm (f i) m) n = sm (fun j => sm (fun i => f i j) n) m
  | 0 => sm_zero (f := fun i => sm (f i) 0) fun i _ => rfl
  | m + 1 => by
    simp only [sm]
    rw [sm_add (fun i => sm (f i) m) (fun i => f i m) n, sm_swap f n m]
theorem sm_one {f : Nat → Int} {n a : Nat} (ha : a < n) (h : ∀ i, i < n → i ≠ a → f i = 0) : sm f n = f a := by
  induction n with
  | zero => omega
  | succ n ih =>
    simp only [sm]
    by_cases e : a = n
    · subst e
      rw [sm_zero fun i hi => h i (by omega) (by omega)]; omega
    · rw [ih (by omega) (fun i hi hne => h i (by omega) hne), h n (by omega) (fun e2 => e e2.symm)]; omega
theorem sm_upd (f : Nat → Int) (a : Nat) (x : Int) {n : Nat} (ha : a < n) : sm (fun i => if i = a then x else f i) n = sm f n - f a + x := by
  induction n with
  | zero => omega
  | succ n ih =>
    simp only [sm]
    by_cases e : a = n
    · subst e
      rw [if_pos rfl, sm_congr (g := f) (fun i hi => if_neg (by omega))]; omega
    · rw [ih (by omega), if_neg (fun e2 => e e2.symm)]; omega
theorem swp_b (a b : Nat) : swp a b b = a := by unfold swp; split <;> simp_all
theorem swp_swp (a b i : Nat) : swp a b (swp a b i) = i := by
  unfold swp
  by_cases e1 : i = a
  · subst e1; simp
  · by_cases e2 : i = b
    · subst e2; simp [e1]
    · simp [e1, e2]
theorem swp_lt {a b i n : Nat} (ha : a < n) (hb : b < n) (hi : i < n) : swp a b i < n := by unfold swp; split <;> (try split) <;> omega
theorem sm_swp (f : Nat → Int) {a b n : Nat} (ha : a < n) (hb : b < n) : sm (fun i => f (swp a b i)) n = sm f n := by
  by_cases hab : a = b
  · subst hab
    exact sm_congr fun i _ => by unfold swp; split <;> simp_all
  · have e : (fun i => f (swp a b i)) = fun i => if i = a then f b else (fun i => if i = b then f a else f i) i := by
      funext i
      unfold swp
      by_cases e1 : i = a
      · simp [e1]
      · by_cases e2 : i = b
        · subst e2; simp [e1]
        · simp [e1, e2]
    rw [e, sm_upd _ _ _ ha, sm_upd _ _ _ hb, if_neg hab]; omega
/-- more rows than columns: some rows add up to nothing -/
theorem depend (k : Nat) : ∀ (n : Nat) (A : Nat → Nat → Int), k < n → ∃ y : Nat → Int, (∃ s, s < n ∧ y s ≠ 0) ∧ ∀ c, c < k → sm (fun s => y s * A s c) n = 0 := by
  induction k with
  | zero => intro n A h; exact ⟨fun _ => 1, ⟨0, h, by decide⟩, fun c hc => by omega⟩
  | succ k ih =>
    intro n A hn
    by_cases hz : ∀ s, s < n → A s k = 0
    · obtain ⟨y, hy, h⟩ := ih n A (by omega)
      refine ⟨y, hy, fun c hc => ?_⟩
      by_cases e : c = k
      · subst e
        exact sm_zero fun s hs => by rw [hz s hs]; simp
      · exact h c (by omega)
    · obtain ⟨s0, hs0, ha⟩ : ∃ s0, s0 < n ∧ A s0 k ≠ 0 := by
        apply Classical.byContradiction
        intro hc
        exact hz fun s hs => Classical.byContradiction fun e => hc ⟨s, hs, e⟩
      obtain ⟨q, rfl⟩ : ∃ q, n = q + 1 := ⟨n - 1, by omega⟩
      obtain ⟨D, hD⟩ : ∃ D : Nat → Nat → Int, D = fun s => A (swp s0 q s) := ⟨_, rfl⟩
      have hq : D q = A s0 := by rw [hD]; simp only []; rw [swp_b]
      obtain ⟨y, ⟨s1, hs1, hy1⟩, h⟩ := ih q (fun s c => D s c * A s0 k - A s0 c * D s k) (by omega)
      obtain ⟨Y, hY⟩ : ∃ Y : Nat → Int, Y = fun s => if s = q then - sm (fun s => y s * D s k) q else y s * A s0 k := ⟨_, rfl⟩
      have key : ∀ c, c < k + 1 → sm (fun s => Y s * D s c) (q + 1) = 0 := by
        intro c hc
        simp only [sm]
        have e1 : Y q = - sm (fun s => y s * D s k) q := by rw [hY]; simp
        rw [e1, hq, sm_congr (f := fun s => Y s * D s c) (g := fun s => y s * (D s c * A s0 k - A s0 c * D s k) + A s0 c * (y s * D s k)) (fun i hi => by
          rw [hY]
          simp only []
          rw [if_neg (by omega), Int.mul_sub]
          have a1 : y i * A s0 k * D i c = y i * (D i c * A s0 k) := by rw [Int.mul_assoc, Int.mul_comm (A s0 k)]
          have a2 : A s0 c * (y i * D i k) = y i * (A s0 c * D i k) := by rw [Int.mul_left_comm]
          rw [a1, a2]; omega), sm_add, sm_mul]
        have e3 : sm (fun s => y s * (D s c * A s0 k - A s0 c * D s k)) q = 0 := by
          by_cases e : c = k
          · subst e
            exact sm_zero fun s _ => by rw [Int.mul_comm (A s0 c)]; simp
          · exact h c (by omega)
        rw [e3, Int.neg_mul, Int.mul_comm (A s0 c)]
        omega
      refine ⟨fun s => Y (swp s0 q s), ?_, fun c hc => ?_⟩
      · have hY1 : Y s1 ≠ 0 := by
          rw [hY]
          simp only []
          rw [if_neg (by omega)]
          exact Int.mul_ne_zero hy1 ha
        exact ⟨swp s0 q s1, swp_lt hs0 (by omega) (by omega), by simp only []; rw [swp_swp]; exact hY1⟩
      · have := key c hc
        rw [← sm_swp (fun s => Y s * D s c) hs0 (show q < q + 1 by omega)] at this
        rw [← this]
        refine sm_congr fun i _ => ?_
        rw [hD]
        simp only []
        rw [swp_swp]
/-- what elimination keeps: pivots, zeros, the rows are made of the rows, modulo p (p = 0: exactly) -/
structure Inv (p : Int) (n : Nat) (T M : Nat → Nat → Int) (r j : Nat) : Prop where
  le : r ≤ n
  piv : ∃ pv : Nat → Nat, ∀ s, s < r → pv s < j ∧ ¬ p ∣ M s (pv s) ∧ ∀ i, s < i → i < n → M i (pv s) = 0
  zero : ∀ i, r ≤ i → i < n → ∀ c, c < j → M i c = 0
  comb : ∀ i, i < n → ∃ e : Nat → Int, ∀ c, p ∣ M i c - sm (fun k => e k * T k c) n
  ent : ∀ i c, i < n → p ∣ M i c → M i c = 0
  back : p = 0 → ∀ i, i < n → ∃ c0 : Int, c0 ≠ 0 ∧ ∃ a : Nat → Int, ∀ c, c0 * T i c = sm (fun s => a s * M s c) n
theorem inv_start {p : Int} {n : Nat} {T : Nat → Nat → Int} (h : ∀ i c, i < n → p ∣ T i c → T i c = 0) : Inv p n T T 0 0 :=
  ⟨Nat.zero_le _, ⟨fun _ => 0, fun s hs => by omega⟩, fun i _ _ c hc => by omega, fun i hi => ⟨fun k => if k = i then 1 else 0, fun c => by
    rw [sm_one (a := i) hi (fun k _ hk => by simp [hk])]; simp⟩, h, fun _ i hi => ⟨1, by decide, fun k => if k = i then 1 else 0, fun c => by
    rw [sm_one (a := i) hi (fun k _ hk => by simp [hk])]; simp⟩⟩
theorem inv_skip {p : Int} {n : Nat} {T M : Nat → Nat → Int} {r j : Nat} (h : Inv p n T M r j) (hz : ∀ i, r ≤ i → i < n → M i j = 0) : Inv p n T M r (j + 1) := by
  obtain ⟨h1, ⟨pv, h2⟩, h3, h4, h5, h6⟩ := h
  refine ⟨h1, ⟨pv, fun s hs => ?_⟩, fun i hi hin c hc => ?_, h4, h5, h6⟩
  · have := h2 s hs
    exact ⟨by omega, this.2⟩
  · by_cases e : c = j
    · subst e; exact hz i hi hin
    · exact h3 i hi hin c (by omega)
theorem inv_swap {p : Int} {n : Nat} {T M : Nat → Nat → Int} {r j a : Nat} (h : Inv p n T M r j) (hr : r < n) (ha : r ≤ a) (han : a < n) : Inv p n T (swM M a r) r j := by
  obtain ⟨h1, ⟨pv, h2⟩, h3, h4, h5, h6⟩ := h
  have hlo : ∀ i, i < r → swp a r i = i := fun i hi => by unfold swp; rw [if_neg (by omega), if_neg (by omega)]
  have hhi : ∀ i, r ≤ i → i < n → r ≤ swp a r i ∧ swp a r i < n := fun i hi hin => by unfold swp; split <;> (try split) <;> omega
  refine ⟨h1, ⟨pv, fun s hs => ?_⟩, fun i hi hin c hc => ?_, fun i hi => ?_, fun i c hi hd => ?_, fun hp i hi => ?_⟩
  · obtain ⟨q1, q2, q3⟩ := h2 s hs
    refine ⟨q1, by unfold swM; rw [hlo s hs]; exact q2, fun i hi hin => ?_⟩
    unfold swM
    by_cases e : i < r
    · rw [hlo i e]; exact q3 i hi hin
    · have := hhi i (by omega) hin
      exact q3 _ (by omega) this.2
  · have := hhi i hi hin
    exact h3 _ this.1 this.2 c hc
  · exact h4 _ (swp_lt han hr hi)
  · exact h5 _ c (swp_lt han hr hi) hd
  · obtain ⟨c0, hc0, b, hb⟩ := h6 hp i hi
    refine ⟨c0, hc0, fun s => b (swp a r s), fun c => ?_⟩
    rw [hb c]
    exact (sm_swp (fun s => b s * M s c) han hr).symm
theorem inv_elim {p : Int} {ρ : Int → Int} (hρ : ∀ x, p ∣ ρ x - x) (hρ0 : ρ 0 = 0) (hρe : ∀ x, p ∣ ρ x → ρ x = 0) {n : Nat} {T M : Nat → Nat → Int} {r j : Nat} (h : Inv p n T M r j) (hr : r < n) (hM : M r j ≠ 0) :
    Inv p n T (elimM ρ M r j n 0) (r + 1) (j + 1) := by
  obtain ⟨h1, ⟨pv, h2⟩, h3, h4, h5, h6⟩ := h
  have hlo : ∀ i c, i ≤ r → elimM ρ M r j n 0 i c = M i c := fun i c hi => by unfold elimM; rw [if_neg (by omega)]
  have hhi : ∀ i c, r < i → i < n → elimM ρ M r j n 0 i c = ρ (M i c * M r j - M r c * M i j) := fun i c hi hin => by unfold elimM; rw [if_pos (by omega)]
  refine ⟨hr, ⟨fun s => if s = r then j else pv s, fun s hs => ?_⟩, fun i hi hin c hc => ?_, fun i hi => ?_, fun i c hi hd => ?_, fun hp i hi => ?_⟩
  · by_cases e : s = r
    · subst e
      simp only [if_pos]
      refine ⟨by omega, by rw [hlo _ _ (Nat.le_refl _)]; exact fun hd => hM (h5 _ _ hr hd), fun i hi hin => ?_⟩
      rw [hhi i j hi hin, Int.mul_comm, Int.sub_self, hρ0]
    · simp only [if_neg e]
      obtain ⟨q1, q2, q3⟩ := h2 s (by omega)
      refine ⟨by omega, by rw [hlo _ _ (by omega)]; exact q2, fun i hi hin => ?_⟩
      by_cases e2 : i ≤ r
      · rw [hlo i _ e2]; exact q3 i hi hin
      · rw [hhi i _ (by omega) hin, q3 i hi hin, q3 r (by omega) hr]; simpa using hρ0
  · rw [hhi i c (by omega) hin]
    by_cases e : c = j
    · subst e
      rw [Int.mul_comm, Int.sub_self, hρ0]
    · rw [h3 i (by omega) hin c (by omega), h3 r (by omega) hr c (by omega)]; simpa using hρ0
  · by_cases e : i ≤ r
    · obtain ⟨u, hu⟩ := h4 i hi
      exact ⟨u, fun c => by rw [hlo i c e]; exact hu c⟩
    · obtain ⟨u, hu⟩ := h4 i hi
      obtain ⟨v, hv⟩ := h4 r hr
      refine ⟨fun k => u k * M r j - v k * M i j, fun c => ?_⟩
      rw [hhi i c (by omega) hi]
      have e1 : sm (fun k => (u k * M r j - v k * M i j) * T k c) n = M r j * sm (fun k => u k * T k c) n - M i j * sm (fun k => v k * T k c) n := by
        rw [← sm_mul, ← sm_mul, Int.sub_eq_add_neg, ← Int.neg_one_mul, ← sm_mul, ← sm_add]
        refine sm_congr fun k _ => ?_
        rw [Int.sub_mul, Int.neg_one_mul, Int.mul_comm (u k), Int.mul_assoc, Int.mul_comm (v k), Int.mul_assoc]
        omega
      rw [e1]
      have d0 := hρ (M i c * M r j - M r c * M i j)
      have d1 := Int.dvd_trans (hu c) (Int.dvd_mul_left (M r j) _)
      have d2 := Int.dvd_trans (hv c) (Int.dvd_mul_left (M i j) _)
      have := Int.dvd_add d0 (Int.dvd_sub d1 d2)
      have e2 : ∀ x S1 S2 : Int, x - (M r j * S1 - M i j * S2) = x - (M i c * M r j - M r c * M i j) + (M r j * (M i c - S1) - M i j * (M r c - S2)) := fun x S1 S2 => by
        rw [Int.mul_sub, Int.mul_sub, Int.mul_comm (M r j) (M i c), Int.mul_comm (M i j) (M r c)]
        omega
      rw [e2]
      exact this
  · by_cases e : i ≤ r
    · rw [hlo i c e] at hd ⊢; exact h5 i c hi hd
    · rw [hhi i c (by omega) hi] at hd ⊢; exact hρe _ hd
  · obtain ⟨c0, hc0, b, hb⟩ := h6 hp i hi
    have hid : ∀ x, ρ x = x := fun x => by
      have := hρ x
      rw [hp, Int.zero_dvd] at this
      omega
    refine ⟨M r j * c0, Int.mul_ne_zero hM hc0, fun s => (if s ≤ r then M r j * b s else b s) + (if s = r then sm (fun s => if r < s then b s * M s j else 0) n else 0), fun c => ?_⟩
    rw [Int.mul_assoc, hb c, ← sm_mul]
    have e1 : sm (fun s => ((if s ≤ r then M r j * b s else b s) + (if s = r then sm (fun s => if r < s then b s * M s j else 0) n else 0)) * elimM ρ M r j n 0 s c) n
        = sm (fun s => (if s ≤ r then M r j * b s else b s) * elimM ρ M r j n 0 s c) n + sm (fun s => if r < s then b s * M s j else 0) n * M r c := by
      rw [sm_congr (g := fun s => (if s ≤ r then M r j * b s else b s) * elimM ρ M r j n 0 s c + (if s = r then sm (fun s => if r < s then b s * M s j else 0) n else 0) * elimM ρ M r j n 0 s c) (fun s _ => Int.add_mul _ _ _), sm_add]
      congr 1
      rw [sm_one (a := r) hr (fun k _ hk => by simp [hk]), if_pos rfl, hlo r c (Nat.le_refl _)]
    rw [e1, ← sm_mulr, ← sm_add]
    refine sm_congr fun s hs => ?_
    by_cases e : s ≤ r
    · rw [if_pos e, if_neg (by omega), hlo s c e, Int.mul_assoc]; omega
    · rw [if_neg e, if_pos (by omega), hhi s c (by omega) hs, hid, Int.mul_sub, Int.mul_left_comm (M r j), Int.mul_comm (M r j), Int.mul_assoc (b s) (M s j), Int.mul_comm (M s j)]; omega
theorem fnd_stop (z : Nat → Bool) (n : Nat) : ∀ f r, n ≤ r + f → r ≤ n → (∀ i, r ≤ i → i < fnd z n f r → z i = true) ∧ (fnd z n f r < n → z (fnd z n f r) = false) ∧ r ≤ fnd z n f r ∧ fnd z n f r ≤ n
  | 0, r, h, h2 => by
    simp only [fnd]
    exact ⟨fun i h1 h2 => by omega, fun h => by omega, by omega, by omega⟩
  | f + 1, r, h, h2 => by
    unfold fnd
    split
    · next e =>
      obtain ⟨a, b, c, d⟩ := fnd_stop z n f (r + 1) (by omega) (by omega)
      refine ⟨fun i h1 h2 => ?_, b, by omega, d⟩
      by_cases e2 : i = r
      · subst e2; exact e.2
      · exact a i (by omega) h2
    · next e =>
      refine ⟨fun i h1 h2 => by omega, fun h => ?_, by omega, by omega⟩
      cases hz : z r
      · rfl
      · exact absurd ⟨h, hz⟩ e
theorem inv_cols {p : Int} {ρ : Int → Int} (hρ : ∀ x, p ∣ ρ x - x) (hρ0 : ρ 0 = 0) (hρe : ∀ x, p ∣ ρ x → ρ x = 0) {n : Nat} {T : Nat → Nat → Int} (h : ∀ i c, i < n → p ∣ T i c → T i c = 0) :
    ∀ j, Inv p n T (colsM ρ n T j).1 (colsM ρ n T j).2 j
  | 0 => inv_start h
  | j + 1 => by
    have ih := inv_cols hρ hρ0 hρe h j
    unfold colsM colM
    obtain ⟨a, b, c, d⟩ := fnd_stop (fun i => (colsM ρ n T j).1 i j == 0) n (n - (colsM ρ n T j).2) (colsM ρ n T j).2 (by have := ih.le; omega) ih.le
    split
    · next e =>
      exact inv_skip ih fun i hi hin => by simpa using a i hi (by rw [e]; exact hin)
    · next e =>
      have hb := b (by omega)
      refine inv_elim hρ hρ0 hρe (inv_swap ih (by omega) c (by omega)) (by omega) ?_
      unfold swM
      rw [swp_b]
      simpa using hb
theorem dvd_of_sum {p : Int} {f : Nat → Int} {n s : Nat} (hs : s < n) (h : ∀ t, t < n → t ≠ s → p ∣ f t) (hd : p ∣ sm f n) : p ∣ f s := by
  have e := sm_upd f s 0 hs
  have h0 : p ∣ sm (fun i => if i = s then 0 else f i) n := by
    clear hd e hs
    induction n with
    | zero => exact Int.dvd_zero _
    | succ n ih =>
      simp only [sm]
      refine Int.dvd_add (ih fun t ht => h t (by omega)) ?_
      split
      · exact Int.dvd_zero _
      · next e => exact h n (by omega) e
  rw [e] at h0
  have := Int.dvd_sub hd h0
  rw [show sm f n - (sm f n - f s + 0) = f s by omega] at this
  exact this
theorem indep {p : Int} (hp : ∀ a b : Int, p ∣ a * b → p ∣ a ∨ p ∣ b) {n : Nat} {T M : Nat → Nat → Int} {r j : Nat} (h : Inv p n T M r j) (y : Nat → Int) (hy : ∀ c, c < j → p ∣ sm (fun s => y s * M s c) r) : ∀ s, s < r → p ∣ y s := by
  obtain ⟨h1, ⟨pv, h2⟩, -⟩ := h
  intro s
  induction s using Nat.strongRecOn with
  | _ s ih =>
    intro hs
    obtain ⟨q1, q2, q3⟩ := h2 s hs
    have := dvd_of_sum hs (fun t ht hne => by
      by_cases e : t < s
      · exact Int.dvd_trans (ih t e ht) (Int.dvd_mul_right _ _)
      · rw [q3 t (by omega) (by omega)]; simp) (hy (pv s) q1)
    exact (hp _ _ this).resolve_right q2
/-- rows that are made of the rows and are not dependent -/
theorem indepZ {p : Int} (hp : p = 0 ∨ p = 2) {n : Nat} {T M : Nat → Nat → Int} {r j : Nat} (h : Inv p n T M r j) :
    ∃ e : Nat → Nat → Int, ∀ y : Nat → Int, (∀ c, c < j → sm (fun s => y s * sm (fun k => e s k * T k c) n) r = 0) → ∀ s, s < r → y s = 0 := by
  have hc : ∀ s, ∃ u : Nat → Int, s < n → ∀ c, p ∣ M s c - sm (fun k => u k * T k c) n := fun s => by
    by_cases hs : s < n
    · obtain ⟨u, hu⟩ := h.comb s hs
      exact ⟨u, fun _ => hu⟩
    · exact ⟨fun _ => 0, fun f => absurd f hs⟩
  obtain ⟨e, he⟩ : ∃ e : Nat → Nat → Int, ∀ s, s < r → ∀ c, p ∣ M s c - sm (fun k => e s k * T k c) n := ⟨fun s => Classical.choose (hc s), fun s hs => Classical.choose_spec (hc s) (by have := h.le; omega)⟩
  refine ⟨e, ?_⟩
  have hdiv : ∀ y : Nat → Int, (∀ c, c < j → sm (fun s => y s * sm (fun k => e s k * T k c) n) r = 0) → ∀ s, s < r → p ∣ y s := by
    intro y hy
    refine indep (fun a b hab => ?_) h y fun c hcj => ?_
    · rcases hp with rfl | rfl
      · rw [Int.zero_dvd] at hab ⊢
        rw [Int.zero_dvd]
        exact Int.mul_eq_zero.1 hab
      · have := Int.emod_emod_of_dvd (a * b) (show (2 : Int) ∣ 2 from Int.dvd_refl _)
        have h1 : a % 2 = 0 ∨ a % 2 = 1 := by omega
        have h2 : b % 2 = 0 ∨ b % 2 = 1 := by omega
        rcases h1 with h1 | h1
        · left; omega
        · rcases h2 with h2 | h2
          · right; omega
          · have h3 := Int.mul_emod a b 2
            rw [h1, h2] at h3
            omega
    · have e1 : sm (fun s => y s * M s c) r = sm (fun s => y s * (M s c - sm (fun k => e s k * T k c) n)) r + sm (fun s => y s * sm (fun k => e s k * T k c) n) r := by
        rw [← sm_add]
        exact sm_congr fun s _ => by rw [← Int.mul_add]; congr 1; omega
      rw [e1, hy c hcj, Int.add_zero]
      have : ∀ q, q ≤ r → p ∣ sm (fun s => y s * (M s c - sm (fun k => e s k * T k c) n)) q := by
        intro q
        induction q with
        | zero => intro _; exact Int.dvd_zero _
        | succ q ih =>
          intro hq
          exact Int.dvd_add (ih (by omega)) (Int.dvd_trans (he q (by omega) c) (Int.dvd_mul_left _ _))
      exact this r (Nat.le_refl _)
  rcases hp with rfl | rfl
  · intro y hy s hs
    have := hdiv y hy s hs
    rwa [Int.zero_dvd] at this
  · have key : ∀ N : Nat, ∀ y : Nat → Int, (∀ s, s < r → (y s).natAbs ≤ N) → (∀ c, c < j → sm (fun s => y s * sm (fun k => e s k * T k c) n) r = 0) → ∀ s, s < r → y s = 0 := by
      intro N
      induction N using Nat.strongRecOn with
      | _ N ih =>
        intro y hN hy s hs
        by_cases h0 : N = 0
        · have := hN s hs; omega
        · have hd := hdiv y hy
          have hz : ∀ s, s < r → y s = 2 * (y s / 2) := fun s hs => by have := hd s hs; omega
          have h2 := ih (N / 2) (by omega) (fun s => y s / 2) (fun s hs => by have := hN s hs; have := hz s hs; omega) (fun c hcj => by
            have := hy c hcj
            rw [sm_congr (g := fun s => 2 * (y s / 2 * sm (fun k => e s k * T k c) n)) (fun s hs => by rw [← Int.mul_assoc, ← hz s hs]), sm_mul] at this
            omega) s hs
          have := hz s hs
          have h3 : y s / 2 = 0 := h2
          omega
    intro y hy
    have hb : ∀ q, ∃ N : Nat, ∀ s, s < q → (y s).natAbs ≤ N := by
      intro q
      induction q with
      | zero => exact ⟨0, fun s hs => by omega⟩
      | succ q ih =>
        obtain ⟨N, hN⟩ := ih
        refine ⟨N + (y q).natAbs, fun s hs => ?_⟩
        by_cases e2 : s = q
        · subst e2; omega
        · have := hN s (by omega); omega
    obtain ⟨N, hN⟩ := hb r
    exact key N y hN hy
/-- k rows, at most, make all rows (times a number that is not zero) -/
def Dep (n m : Nat) (T : Nat → Nat → Int) (k : Nat) : Prop := ∃ c0 : Int, c0 ≠ 0 ∧ ∃ A B : Nat → Nat → Int, ∀ i, i < n → ∀ c, c < m → c0 * T i c = sm (fun q => A i q * B q c) k
theorem rank_le {p : Int} (hp : p = 0 ∨ p = 2) {n m : Nat} {T M : Nat → Nat → Int} {r k : Nat} (h : Inv p n T M r m) (hd : Dep n m T k) : r ≤ k := by
  apply Classical.byContradiction
  intro hlt
  obtain ⟨e, he⟩ := indepZ hp h
  obtain ⟨c0, hc0, A, B, hAB⟩ := hd
  obtain ⟨y, ⟨s0, hs0, hy0⟩, hy⟩ := depend k r (fun s q => sm (fun i => e s i * A i q) n) (by omega)
  refine hy0 (he y (fun c hc => ?_) s0 hs0)
  have e1 : c0 * sm (fun s => y s * sm (fun i => e s i * T i c) n) r = sm (fun q => sm (fun s => y s * sm (fun i => e s i * A i q) n) r * B q c) k := by
    rw [← sm_mul]
    have e2 : ∀ s, s < r → c0 * (y s * sm (fun i => e s i * T i c) n) = sm (fun q => y s * sm (fun i => e s i * A i q) n * B q c) k := by
      intro s _
      rw [Int.mul_left_comm, ← sm_mul]
      have e3 : sm (fun i => c0 * (e s i * T i c)) n = sm (fun q => sm (fun i => e s i * A i q) n * B q c) k := by
        rw [sm_congr (g := fun i => sm (fun q => e s i * A i q * B q c) k) (fun i hi => by
          rw [Int.mul_left_comm, hAB i hi c hc, ← sm_mul]
          exact sm_congr fun q _ => (Int.mul_assoc _ _ _).symm), sm_swap]
        exact sm_congr fun q _ => sm_mulr _ _ _
      rw [e3, ← sm_mul]
      exact sm_congr fun q _ => (Int.mul_assoc _ _ _).symm
    rw [sm_congr e2, sm_swap]
    exact sm_congr fun q _ => sm_mulr _ _ _
  rw [sm_zero (n := k) (fun q hq => by rw [hy q hq]; simp)] at e1
  exact (Int.mul_eq_zero.1 e1).resolve_left hc0
theorem common {α : Type} (P : Nat → Int → α → Prop) (hP : ∀ i c a d, d ≠ 0 → P i c a → ∃ b, P i (d * c) b) : ∀ n, (∀ i, i < n → ∃ c, c ≠ 0 ∧ ∃ a, P i c a) → ∃ c, c ≠ 0 ∧ ∀ i, i < n → ∃ a, P i c a
  | 0, _ => ⟨1, by decide, fun i hi => by omega⟩
  | n + 1, h => by
    obtain ⟨c, hc, h1⟩ := common P hP n fun i hi => h i (by omega)
    obtain ⟨d, hd, a, ha⟩ := h n (by omega)
    refine ⟨d * c, Int.mul_ne_zero hd hc, fun i hi => ?_⟩
    by_cases e : i = n
    · subst e
      obtain ⟨b, hb⟩ := hP i d a c hc ha
      exact ⟨b, by rw [Int.mul_comm]; exact hb⟩
    · obtain ⟨a2, ha2⟩ := h1 i (by omega)
      exact hP i c a2 d hd ha2
theorem dep_of {n m : Nat} {T M : Nat → Nat → Int} {r : Nat} (h : Inv 0 n T M r m) : Dep n m T r := by
  obtain ⟨c0, hc0, hb⟩ := common (fun i c0 (a : Nat → Int) => ∀ c, c0 * T i c = sm (fun s => a s * M s c) n) (fun i c a d _ ha => ⟨fun s => d * a s, fun x => by
    rw [Int.mul_assoc, ha x, ← sm_mul]
    exact sm_congr fun s _ => (Int.mul_assoc _ _ _).symm⟩) n (h.back rfl)
  have hb2 : ∀ i, ∃ a : Nat → Int, i < n → ∀ c, c0 * T i c = sm (fun s => a s * M s c) n := fun i => by
    by_cases hi : i < n
    · obtain ⟨a, ha⟩ := hb i hi
      exact ⟨a, fun _ => ha⟩
    · exact ⟨fun _ => 0, fun f => absurd f hi⟩
  refine ⟨c0, hc0, fun i => Classical.choose (hb2 i), M, fun i hi c hc => ?_⟩
  rw [Classical.choose_spec (hb2 i) hi c]
  have hle := h.le
  have hz : ∀ q, r + q ≤ n → ∀ a : Nat → Int, sm (fun s => a s * M s c) (r + q) = sm (fun s => a s * M s c) r := by
    intro q
    induction q with
    | zero => intro _ a; rfl
    | succ q ih =>
      intro hq a
      show sm (fun s => a s * M s c) (r + q) + a (r + q) * M (r + q) c = _
      rw [ih (by omega), h.zero (r + q) (by omega) (by omega) c hc]; omega
  have := hz (n - r) (by omega) (Classical.choose (hb2 i))
  rw [show r + (n - r) = n by omega] at this
  exact this
theorem dep_turn {n m : Nat} {T : Nat → Nat → Int} {k : Nat} (h : Dep n m T k) : Dep m n (fun c i => T i c) k := by
  obtain ⟨c0, hc0, A, B, hAB⟩ := h
  exact ⟨c0, hc0, fun c q => B q c, fun q i => A i q, fun c hc i hi => by
    rw [hAB i hi c hc]
    exact sm_congr fun q _ => Int.mul_comm _ _⟩
theorem inv_id {n : Nat} {T : Nat → Nat → Int} (m : Nat) : Inv 0 n T (colsM (fun x => x) n T m).1 (rankM (fun x => x) n m T) m :=
  inv_cols (fun x => by simp) rfl (fun x h => by rwa [Int.zero_dvd] at h) (fun i c _ h => by rwa [Int.zero_dvd] at h) m
theorem inv_two {n : Nat} {T : Nat → Nat → Int} (hT : ∀ i c, T i c = 0 ∨ T i c = 1) (m : Nat) : Inv 2 n T (colsM (fun x => x % 2) n T m).1 (rankM (fun x => x % 2) n m T) m :=
  inv_cols (fun x => by omega) rfl (fun x h => by omega) (fun i c _ h => by have := hT i c; omega) m
/-- the rank is at most the number of rows that make all -/
theorem rank_dep {n m k : Nat} {T : Nat → Nat → Int} (h : Dep n m T k) : rankM (fun x => x) n m T ≤ k := rank_le (.inl rfl) (inv_id m) h
theorem rank_turn (n m : Nat) (T : Nat → Nat → Int) : rankM (fun x => x) m n (fun c i => T i c) = rankM (fun x => x) n m T :=
  Nat.le_antisymm (rank_dep (dep_turn (dep_of (inv_id m)))) (rank_dep (n := n) (m := m) (dep_turn (dep_of (inv_id (T := fun c i => T i c) n))))
theorem rank_odd (n m : Nat) {T : Nat → Nat → Int} (hT : ∀ i c, T i c = 0 ∨ T i c = 1) : rankM (fun x => x % 2) n m T ≤ rankM (fun x => x) n m T :=
  rank_le (.inr rfl) (inv_two hT m) (dep_of (inv_id m))
end Go.Proofs.Ytpieaeokbblflaa.Dm
/- How many different rows a task has; conditions: none. -/
namespace Go.Proofs.Ytpieaeokbblflaa
open Go.RowKit Go.Maps

theorem range_any_succR (p : Nat → Bool) (k : Nat) : (List.range (k + 1)).any p = ((List.range k).any p || p k) := by
  rw [List.range_succ, List.any_append]; simp
def sameL (a b : List Int) : Bool := a == b
def codeR (t : List (List Int)) (i : Nat) : Nat := setN (t.getD i []) 0 0
def freshR (t : List (List Int)) (i : Nat) : Bool := (List.range i).all fun j => !sameL (t.getD i []) (t.getD j [])
def rowsN (t : List (List Int)) : Int := if taskB t then (cntN (freshR t) t.length : Int) else 0
theorem rowsN_no {t : List (List Int)} (h : taskB t = false) : rowsN t = 0 := by simp [rowsN, h]
theorem rowsN_yes {t : List (List Int)} (h : taskB t = true) : rowsN t = (cntN (freshR t) t.length : Int) := by simp [rowsN, h]
theorem cnt_no {p : Nat → Bool} {k : Nat} (h : p k = false) : cntN p (k + 1) = cntN p k := by simp [cntN, h]
theorem cnt_yes {p : Nat → Bool} {k : Nat} (h : p k = true) : cntN p (k + 1) = cntN p k + 1 := by simp [cntN, h]
theorem setN_inj {a b : List Int} (hl : a.length = b.length) (ha : ∀ x ∈ a, x = 0 ∨ x = 1) (hb : ∀ x ∈ b, x = 0 ∨ x = 1) (h : setN a 0 0 = setN b 0 0) : a = b := by
  refine List.ext_getElem hl fun i h1 h2 => ?_
  have e1 := setN_test a 0 0 i ha
  have e2 := setN_test b 0 0 i hb
  rw [h, e2] at e1
  simp only [Nat.zero_testBit, Bool.false_or, Nat.zero_le, decide_true, Bool.true_and, Nat.sub_zero, List.getD, List.getElem?_eq_getElem h1, List.getElem?_eq_getElem h2, Option.getD_some] at e1
  have a1 := ha _ (List.getElem_mem h1)
  have b1 := hb _ (List.getElem_mem h2)
  have e3 : (b[i] = 1) ↔ (a[i] = 1) := by simpa using e1
  omega
theorem task_row {t : List (List Int)} (ht : taskB t = true) (i : Nat) (hi : i < t.length) : (t.getD i []).length = wid t ∧ (∀ x ∈ t.getD i [], x = 0 ∨ x = 1) ∧ t.getD i [] = t[i] := by
  obtain ⟨-, -, h3, h4⟩ := taskB_yes ht
  have e : t.getD i [] = t[i] := by simp [List.getD, hi]
  rw [e]
  refine ⟨h3 i hi, fun x hx => ?_, rfl⟩
  obtain ⟨j, hj, rfl⟩ := List.getElem_of_mem hx
  exact h4 i hi j hj
theorem code_same {t : List (List Int)} (ht : taskB t = true) (i j : Nat) (hi : i < t.length) (hj : j < t.length) : ((codeR t j : Int) == (codeR t i : Int)) = sameL (t.getD i []) (t.getD j []) := by
  obtain ⟨a1, a2, -⟩ := task_row ht i hi
  obtain ⟨b1, b2, -⟩ := task_row ht j hj
  unfold codeR sameL
  rw [Bool.eq_iff_iff, beq_iff_eq, beq_iff_eq]
  constructor
  · intro h; exact setN_inj (by omega) a2 b2 (by omega)
  · intro h; rw [h]
/-- what the map says behind k rows -/
def SetD (t : List (List Int)) (k : Nat) (D : DataW Unit) : Prop := Maps.size D = cntN (freshR t) k ∧ ∀ c : Int, Maps.has D (.int .i64 c) = (List.range k).any fun j => (codeR t j : Int) == c
theorem setD_zero (t : List (List Int)) : SetD t 0 (.map []) := ⟨rfl, fun _ => rfl⟩
theorem setD_put {t : List (List Int)} {k : Nat} {D : DataW Unit} (ht : taskB t = true) (hk : k < t.length) (h : SetD t k D) (hT : Tidy D) (hI : IsMap D) (hK : WideAt.IsKeyLit (.int .i64 (codeR t k : Int))) (d : DataW Unit) : SetD t (k + 1) (D.put (.int .i64 (codeR t k : Int)) d) := by
  obtain ⟨h1, h2⟩ := h
  have hfr : freshR t k = !((List.range k).any fun j => (codeR t j : Int) == (codeR t k : Int)) := by
    unfold freshR
    rw [List.not_any_eq_all_not]
    rw [Bool.eq_iff_iff, List.all_eq_true, List.all_eq_true]
    constructor
    · intro h j hj; rw [code_same ht k j hk (by have := List.mem_range.1 hj; omega)]; exact h j hj
    · intro h j hj; rw [← code_same ht k j hk (by have := List.mem_range.1 hj; omega)]; exact h j hj
  refine ⟨?_, fun c => ?_⟩
  · rw [size_put hT, h2, h1]
    cases hx : (List.range k).any fun j => (codeR t j : Int) == (codeR t k : Int)
    · rw [hx] at hfr
      rw [cnt_yes (by rw [hfr]; rfl)]
      rfl
    · rw [hx] at hfr
      rw [cnt_no (by rw [hfr]; rfl)]
      rfl
  · rw [range_any_succR]
    by_cases hc : c = (codeR t k : Int)
    · subst hc
      rw [has_put_same hI hK]
      simp
    · rw [has_put_other (by intro e; cases e; exact hc rfl), h2]
      have : ((codeR t k : Int) == c) = false := by simp; intro e; exact hc e.symm
      rw [this, Bool.or_false]

theorem c_l1Same (v u : Value) (a b : List Int) (w : World) (h : Ints w v a) (g : Ints w u b) :
    Calls Try.prog 120 #[v, u] w fun e w' => e = .returned (.bool (sameL a b)) ∧ ∃ m, w' = w.drewN m := by
  obtain ⟨ad, cap, rfl, hl, -⟩ := h.out
  obtain ⟨ad2, cap2, rfl, hl2, -⟩ := g.out
  cases hd : ((a.length : Int) != (b.length : Int))
  · have hlen : a.length = b.length := by simp at hd; omega
    have hend : Hid (a.take a.length = b.take a.length → sameL a b = true) := Lib.hid fun h => by
      rw [List.take_length, hlen, List.take_length] at h; simp [sameL, h]
    have hle : a.length ≤ b.length ∧ b.length ≤ a.length := by omega
    clear hlen
    go_enter Try.func120, Try.ntmps120
    go_wp2_with fail
    go_loopw [5] (fun i wr => ∃ k : Nat, k ≤ a.length ∧ i = .int .i64 k ∧ Hid (a.take k = b.take k) ∧ Hid (∃ m, wr = w.drewN m)) (fun i _ => a.length - (intOf i).toNat)
    case atStart => exact ⟨0, Nat.zero_le _, rfl, Lib.hid rfl, 0, rfl⟩
    case round =>
      obtain ⟨k, hk, rfl, hc, hB⟩ := hrel
      obtain ⟨m, rfl⟩ := hB.out
      clear hB
      by_cases hlt : k < a.length
      · obtain ⟨bl, off, rfl, hb, hcell⟩ := h.at k hlt
        have hlt2 : k < b.length := by omega
        obtain ⟨bl2, off2, rfl, hb2, hcell2⟩ := g.at k hlt2
        cases hne : (a[k] != b[k])
        · have hc2 : Hid (a.take (k + 1) = b.take (k + 1)) := Lib.hid (by
            rw [List.take_succ_eq_append_getElem hlt, List.take_succ_eq_append_getElem hlt2, hc.out, show a[k] = b[k] by simpa using hne])
          go_wp2_with fail
          go_quiet (fail)
          all_goals go_wp2
          all_goals go_roundw
          case rel => exact ⟨k + 1, by omega, by go_num, hc2, Lib.hid ⟨_, by first | rfl | exact World.drewN_drewN _ _ _⟩⟩
          case measure => simp [intOf]; omega
        · have hG : Hid (sameL a b = false) := Lib.hid (by
            unfold sameL
            rw [beq_eq_false_iff_ne]
            intro e
            subst e
            simp at hne)
          replace hne2 := Lib.hid hne
          go_wp2_with fail
          go_quiet (fail)
          all_goals go_wp2
          go_ret
          exact ⟨by rw [hG.out]; rfl, _, by first | rfl | exact World.drewN_drewN _ _ _⟩
      · obtain rfl : k = a.length := by omega
        have hG := Lib.hid (hend.out hc.out)
        go_wp2
        go_ret
        exact ⟨by rw [hG.out]; rfl, _, rfl⟩
  · have hF : Hid (sameL a b = false) := Lib.hid (by
      unfold sameL
      rw [beq_eq_false_iff_ne]
      intro e
      subst e
      simp at hd)
    go_enter Try.func120, Try.ntmps120
    go_wp2
    go_ret
    exact ⟨by rw [hF.out]; rfl, 0, rfl⟩

set_option maxRecDepth 100000 in
set_option maxHeartbeats 2000000 in
theorem c_spec_CountRows (v : Value) (t : List (List Int)) (w : World) (h : Rows2 w v t) :
    Calls Try.prog 58 #[v] w fun e w' => e = .returned (.tuple #[.int .i64 (rowsN t), .bool (taskB t)]) ∧ Below w.heap.size w w' := by
  obtain ⟨ad, cap, rfl, hl⟩ := h.out
  cases ht : taskB t
  · have hF := Lib.hid (rowsN_no ht)
    replace ht := Lib.hid ht
    go_enter Try.func58, Try.ntmps58
    go_wp2_with fail
    refine (c_l8TaskB _ t _ h).mono ?_
    rintro e w1 ⟨rfl, hb1⟩
    rw [ht.out]
    go_wp2
    go_ret2
    exact ⟨by rw [hF.out]; rfl, hb1⟩
  · have hF := Lib.hid (rowsN_yes ht)
    obtain ⟨ht1, -, -, -⟩ := taskB_yes ht
    have hget : Hid (∀ i (hi : i < t.length), t.getD i [] = t[i]) := Lib.hid fun i hi => (task_row ht i hi).2.2
    replace ht := Lib.hid ht
    go_enter Try.func58, Try.ntmps58
    go_wp2_with fail
    refine (c_l8TaskB _ t _ h).mono ?_
    rintro e w1 ⟨rfl, hb1⟩
    rw [ht.out]
    go_wp2_with fail
    go_loopw [4, 5] (fun m j wr => ∃ k : Nat, k ≤ t.length ∧ j = .int .i64 k ∧ m = .int .i64 (cntN (freshR t) k : Int) ∧ Below w.heap.size w wr) (fun _ j _ => t.length - (intOf j).toNat)
    case atStart => exact ⟨0, Nat.zero_le _, rfl, rfl, hb1⟩
    case round =>
      clear hb1
      obtain ⟨k, hk, rfl, rfl, hB⟩ := hrel
      have hcl := cntN_le (freshR t) k
      by_cases hltk : k < t.length
      · obtain ⟨wo, rfl⟩ : ∃ wo : World, wo = wr := ⟨_, rfl⟩
        have hd : decide ((k : Int) < (t.length : Int)) = true := by simp; omega
        go_wp2
        go_loopw [6, 7] (fun f j wr => ∃ l : Nat, l ≤ k ∧ j = .int .i64 l ∧ f = .bool ((List.range l).all fun j => !sameL (t.getD k []) (t.getD j [])) ∧ Hid (∃ m, wr = wo.drewN m)) (fun _ j _ => k - (intOf j).toNat)
        case atStart => exact ⟨0, Nat.zero_le _, rfl, rfl, 0, rfl⟩
        case round =>
          obtain ⟨l, hl', rfl, rfl, hBo⟩ := hrel
          obtain ⟨m, rfl⟩ := hBo.out
          clear hBo
          by_cases hltl : l < k
          · have hd2 : decide ((l : Int) < (k : Int)) = true := by simp; omega
            have hltl2 : l < t.length := by omega
            have hs := Lib.hid (range_all_succ (fun j => !sameL (t.getD k []) (t.getD j [])) l)
            cases hx : (List.range l).all fun j => !sameL (t.getD k []) (t.getD j [])
            · have hs2 : Hid (((List.range (l + 1)).all fun j => !sameL (t.getD k []) (t.getD j [])) = false) := Lib.hid (by rw [hs.out, hx]; rfl)
              replace hx := Lib.hid hx
              go_wp2_with fail
              go_quiet (fail)
              all_goals go_wp2
              all_goals go_roundw
              case rel => exact ⟨l + 1, by omega, by go_num, by rw [hs2.out], Lib.hid ⟨_, by first | rfl | exact World.drewN_drewN _ _ _⟩⟩
              case measure => simp [intOf]; omega
            · have hs2 : Hid (((List.range (l + 1)).all fun j => !sameL (t.getD k []) (t.getD j [])) = !sameL t[k] t[l]) := Lib.hid (by rw [hs.out, hx, hget.out k hltk, hget.out l hltl2]; rfl)
              replace hx := Lib.hid hx
              obtain ⟨bl, off, a0, c0, e1, hb0, hcell0, hi0⟩ := (h.below hB).at k hltk
              cases e1
              obtain ⟨bl, off, a1, c1, e1, hb1, hcell1, hi1⟩ := (h.below hB).at l hltl2
              cases e1
              go_wp2_with fail
              go_quiet ((go_at_call 120; exact quiet_addN (c_l1Same _ _ t[k] t[l] _ (hi0.below (below_drewN (Below.refl _ _) _)) (hi1.below (below_drewN (Below.refl _ _) _)))))
              all_goals go_wp2
              all_goals go_roundw
              case rel => exact ⟨l + 1, by omega, by go_num, by rw [hs2.out], Lib.hid ⟨_, by first | rfl | exact World.drewN_drewN _ _ _⟩⟩
              case measure => simp [intOf]; omega
          · obtain rfl : l = k := by omega
            have hBw := below_drewN hB m
            cases hx : (List.range l).all fun j => !sameL (t.getD l []) (t.getD j [])
            · have hn := Lib.hid (cnt_no (p := freshR t) (k := l) hx)
              replace hx := Lib.hid hx
              go_wp2
              go_roundw
              case rel => exact ⟨l + 1, by omega, by go_num, by rw [hn.out], hBw⟩
              case measure => simp [intOf]; omega
            · have hn := Lib.hid (cnt_yes (p := freshR t) (k := l) hx)
              replace hx := Lib.hid hx
              go_wp2
              go_roundw
              case rel => exact ⟨l + 1, by omega, by go_num, by rw [hn.out]; go_num, hBw⟩
              case measure => simp [intOf]; omega
      · obtain rfl : k = t.length := by omega
        go_wp2
        go_ret2
        exact ⟨by rw [hF.out]; rfl, hB⟩

theorem or_shl3 (m q k : Nat) (hm : m < 4096) (hq : q < 2) (hk : k < 12) : bits BinOp.or IntKind.i64 (m : Int) (wrap64 ((q : Int) * 2 ^ k)) = ((m ||| q <<< k : Nat) : Int) := by
  have h : ∀ q : Nat, q < 2 → ∀ k : Nat, k < 12 → wrap64 ((q : Int) * 2 ^ k) = ((q <<< k : Nat) : Int) ∧ q <<< k ≤ 4096 := by decide +kernel
  obtain ⟨h1, h2⟩ := h q hq k hk
  rw [h1, i64_or_nat _ _ (by omega) (by omega)]

set_option maxRecDepth 100000 in
set_option maxHeartbeats 4000000 in
theorem c_impl_CountRows (v : Value) (t : List (List Int)) (w : World) (h : Rows2 w v t) :
    Calls Try.prog 57 #[v] w fun e w' => e = .returned (.tuple #[.int .i64 (rowsN t), .bool (taskB t)]) ∧ Below w.heap.size w w' := by
  obtain ⟨ad, cap, rfl, hl⟩ := h.out
  cases ht : taskB t
  · have hF := Lib.hid (rowsN_no ht)
    replace ht := Lib.hid ht
    go_enter Try.func57, Try.ntmps57
    go_wp2_with fail
    refine (c_impl_IsTask _ t _ h).mono ?_
    rintro e _ ⟨rfl, rfl⟩
    rw [ht.out]
    go_wp2
    go_ret2
    exact ⟨by rw [hF.out]; rfl, Below.refl _ _⟩
  · have hF := Lib.hid (rowsN_yes ht)
    obtain ⟨ht1, ht2, hlen, h01⟩ := taskB_yes ht
    have hstep := fun (k : Nat) (D : DataW Unit) (hk : k < t.length) (h : SetD t k D) (hT : Tidy D) (hI : IsMap D) (hK : WideAt.IsKeyLit (.int .i64 (codeR t k : Int))) (d : DataW Unit) => setD_put ht hk h hT hI hK d
    have hrow := fun i hi => task_row ht i hi
    have law : Keyed Try.prog 3 := int_keyed Try.underlying3
    replace hstep := Lib.hid hstep
    replace hrow := Lib.hid hrow
    replace hlen := Lib.hid hlen
    replace h01 := Lib.hid h01
    replace ht := Lib.hid ht
    have hmm := @run_makeMap Try.prog
    have hown0 := World.ownsMap_made (H := Unit) w Try.prog 3 (plainElem Try.prog 4)
    go_enter Try.func57, Try.ntmps57
    go_wp2_with fail
    refine (c_impl_IsTask _ t _ h).mono ?_
    rintro e _ ⟨rfl, rfl⟩
    rw [ht.out]
    go_wp2_with fail
    go_loopw [16] (fun j wr => ∃ k : Nat, k ≤ t.length ∧ j = .int .i64 k ∧ Hid (∃ D, wr.ownsMap Try.prog 3 (plainElem (H := Unit) Try.prog 4) w.heap.size k D ∧ SetD t k D) ∧ Below w.heap.size w wr) (fun j _ => t.length - (intOf j).toNat)
    case atStart => exact ⟨0, Nat.zero_le _, rfl, Lib.hid ⟨_, hown0, setD_zero t⟩, (Below.refl _ _).alloc (Nat.le_refl _) _⟩
    case round =>
      obtain ⟨k, hk, rfl, hD, hB⟩ := hrel
      by_cases hltk : k < t.length
      · obtain ⟨wo, rfl⟩ : ∃ wo : World, wo = wr := ⟨_, rfl⟩
        obtain ⟨bl, off, a0, c0, rfl, hb0, hcell0, hi0⟩ := (h.below hB).at k hltk
        obtain ⟨r1, r2, r3⟩ := hrow.out k hltk
        rw [← r3] at hcell0 hi0
        obtain ⟨r, hr⟩ : ∃ r, r = t.getD k [] := ⟨_, rfl⟩
        rw [← hr] at hcell0 hi0 r1 r2
        have hcode : codeR t k = setN r 0 0 := by unfold codeR; rw [hr]
        replace hr := Lib.hid hr
        replace r3 := Lib.hid r3
        replace r2 := Lib.hid r2
        have hr4 : 1 ≤ r.length ∧ r.length ≤ 4 := by omega
        have hd : decide ((k : Int) < (t.length : Int)) = true := by simp; omega
        replace r1 := Lib.hid r1
        go_wp2
        go_loop [7, 22] (fun m i => ∃ j : Nat, j ≤ r.length ∧ i = .int .i64 j ∧ m = .int .i64 ((setN (r.take j) 0 0 : Nat) : Int)) (fun _ i => r.length - (intOf i).toNat)
        case atStart => exact ⟨0, Nat.zero_le _, rfl, rfl⟩
        case round =>
          obtain ⟨j, hj, rfl, rfl⟩ := hrel
          by_cases hltj : j < r.length
          · obtain ⟨bi, oi, rfl, hbi, hcelli⟩ := hi0.at j hltj
            have hm : setN (r.take j) 0 0 < 2 ^ 12 := setN_lt _ _ _ 12 (by decide) (fun x hx => r2.out x (List.mem_of_mem_take hx)) (by simp; omega)
            have hm : setN (r.take j) 0 0 < 4096 := hm
            obtain ⟨q, hq, hq2⟩ : ∃ q : Nat, r[j] = (q : Int) ∧ q < 2 := by
              rcases r2.out r[j] (List.getElem_mem hltj) with e | e
              · exact ⟨0, e, by omega⟩
              · exact ⟨1, e, by omega⟩
            rw [hq] at hcelli
            have hF : Hid (((setN (r.take (j + 1)) 0 0 : Nat) : Int) = bits BinOp.or IntKind.i64 (setN (r.take j) 0 0 : Int) (wrap64 ((q : Int) * 2 ^ j))) := Lib.hid (by
              rw [or_shl3 _ q j hm hq2 (by omega), List.take_succ_eq_append_getElem hltj, setN_snoc, hq]; simp [Nat.min_eq_left (Nat.le_of_lt hltj)])
            replace hq := Lib.hid hq
            go_wp2
            go_round
            case rel => exact ⟨j + 1, by omega, by go_num, by rw [hF.out]⟩
            case measure => simp [intOf]; omega
          · obtain rfl : j = r.length := by omega
            rw [List.take_length, ← hcode]
            have hc4 : setN r 0 0 < 2 ^ 12 := setN_lt _ _ _ 12 (by decide) r2.out (by omega)
            have hcl : codeR t k < 4096 := by rw [hcode]; exact hc4
            have wf : (Lit.int .i64 (codeR t k : Int)).wf = true := WalkArith.wf_i64 (by omega)
            obtain ⟨D, hown, hsd⟩ := hD.out
            have hkey := keyOf_int_mk (P := Try.prog) Try.underlying3 wf
            go_wp2_with (at_mapUpdate; refine wpList_mapUpdate_own _ rfl _ _ _ 120 rfl 3 4 law Try.underlying120 _ w.heap.size k _ rfl hown (by unfold maxLen; omega) _ _ _ rfl rfl hkey _ [] (plainElem_bool Try.underlying4 true) ?_; intro w1 hown1 hgrow1)
            have hs2 := hstep.out k D hltk hsd (hown.tidy law) (hown.tidy law).isMap trivial (.lit (.bool true))
            replace hs2 := Lib.hid hs2
            go_roundw
            case rel => exact ⟨k + 1, by omega, by go_num, Lib.hid ⟨_, hown1, hs2.out⟩, hB.grown hgrow1 hB.size (fun j hj => by cases hj; exact Nat.le_refl _)⟩
            case measure => simp [intOf]; omega
      · obtain rfl : k = t.length := by omega
        obtain ⟨D, hown, hsd⟩ := hD.out
        have hsz := hsd.1
        replace hsd := Lib.hid hsd
        go_wp2_with (at_len; refine wpList_len_own _ rfl _ 120 rfl 3 4 Try.underlying120 _ w.heap.size t.length D rfl hown ?_)
        go_ret2
        exact ⟨by rw [hF.out, ← hsz]; rfl, hB⟩
end Go.Proofs.Ytpieaeokbblflaa
/- What must be told, and how it bounds: splits, the turned task, ranks, rows; conditions: none. -/
namespace Go.Proofs.Ytpieaeokbblflaa
open Go.RowKit

theorem subs_iff (R p : Nat) : p ∈ subs R ↔ 0 < p ∧ p < R ∧ p &&& R = p := by
  constructor
  · exact subs_mem
  · rintro ⟨h1, h2, h3⟩
    unfold subs
    rw [List.mem_filter]
    simp only [Bool.and_eq_true, decide_eq_true_eq, beq_iff_eq]
    exact ⟨List.mem_range.2 h2, h1, h3⟩
set_option maxRecDepth 100000 in
theorem sub_xor_all : ∀ R, R < 16 → ∀ p, p < R → p &&& R = p → R - p = R ^^^ p := by decide +kernel
theorem sub_bits {R p : Nat} (hR : R < 16) (h : p ∈ subs R) : (∀ i, p.testBit i = true → R.testBit i = true) ∧ (∀ i, (R - p).testBit i = (R.testBit i && !p.testBit i)) ∧ R - p ∈ subs R ∧ R - (R - p) = p := by
  obtain ⟨h1, h2, h3⟩ := (subs_iff R p).1 h
  have ha : ∀ i, p.testBit i = true → R.testBit i = true := fun i hi => by
    rw [← h3, Nat.testBit_and] at hi
    simp only [Bool.and_eq_true] at hi
    exact hi.2
  have hb : ∀ i, (R - p).testBit i = (R.testBit i && !p.testBit i) := fun i => by
    rw [sub_xor_all R hR p h2 h3, Nat.testBit_xor]
    have := ha i
    cases e1 : R.testBit i <;> cases e2 : p.testBit i <;> simp_all
  refine ⟨ha, hb, (subs_iff R _).2 ⟨by omega, by omega, ?_⟩, by omega⟩
  apply Nat.eq_of_testBit_eq
  intro i
  rw [Nat.testBit_and, hb i]
  cases R.testBit i <;> simp
theorem minL_mem (i : Nat) : ∀ l : List Nat, minL i l = i ∨ minL i l ∈ l := by
  intro l
  induction l generalizing i with
  | nil => exact .inl rfl
  | cons x l ih =>
    show minL (min i x) l = i ∨ minL (min i x) l ∈ x :: l
    rcases ih (min i x) with h | h
    · rw [h]
      rcases Nat.le_total i x with e | e
      · left; omega
      · right; rw [Nat.min_eq_right e]; exact List.mem_cons_self
    · exact .inr (List.mem_cons_of_mem _ h)
theorem minL_low (i : Nat) : ∀ (l : List Nat) (x : Nat), x ∈ l → minL i l ≤ x := by
  intro l
  induction l generalizing i with
  | nil => intro x h; exact absurd h List.not_mem_nil
  | cons y l ih =>
    intro x h
    show minL (min i y) l ≤ x
    rcases List.mem_cons.1 h with rfl | h
    · exact Nat.le_trans (minL_le _ _) (Nat.min_le_right _ _)
    · exact ih _ x h
theorem minL_app (i : Nat) (a b : List Nat) : minL (minL i a) b = minL i (a ++ b) := by unfold minL; rw [List.foldl_append]
theorem minL_comm (i : Nat) (a b : List Nat) : minL (minL i a) b = minL (minL i b) a := by rw [minL_app, minL_app]; exact minL_perm List.perm_append_comm i
theorem plB_zero {t : List (List Int)} {R C : Nat} (h : R = 0 ∨ C = 0) : plB t R C = true := by
  unfold plB
  have : hasP t R C 1 t.length 0 = false := by
    cases e : hasP t R C 1 t.length 0
    · rfl
    · obtain ⟨i, j, -, -, h1, h2, -⟩ := (hasP_iff t R C 1).1 e
      rcases h with rfl | rfl
      · simp at h1
      · simp at h2
  rw [this]; rfl
theorem need_eq' (t : List (List Int)) (R C : Nat) : need t R C = if plB t R C then 0 else
    minL (minL 8 ((subs R).map fun p => 1 + max (need t p C) (need t (R - p) C))) ((subs C).map fun p => 1 + max (need t R p) (need t R (C - p))) :=
  need_eq t R C fun h => plB_zero (.inl (by omega))
theorem need_plain {t : List (List Int)} {R C : Nat} (h : plB t R C = true) : need t R C = 0 := by rw [need_eq', if_pos h]
theorem need_row {t : List (List Int)} {R C p : Nat} (hp : p ∈ subs R) : need t R C ≤ 1 + max (need t p C) (need t (R - p) C) := by
  rw [need_eq']
  split
  · omega
  · exact Nat.le_trans (minL_le _ _) (minL_low _ _ _ (List.mem_map.2 ⟨p, hp, rfl⟩))
theorem need_col {t : List (List Int)} {R C p : Nat} (hp : p ∈ subs C) : need t R C ≤ 1 + max (need t R p) (need t R (C - p)) := by
  rw [need_eq']
  split
  · omega
  · exact minL_low _ _ _ (List.mem_map.2 ⟨p, hp, rfl⟩)
theorem need_cases (t : List (List Int)) (R C : Nat) : plB t R C = true ∨ (∃ p, p ∈ subs R ∧ need t R C = 1 + max (need t p C) (need t (R - p) C)) ∨ (∃ p, p ∈ subs C ∧ need t R C = 1 + max (need t R p) (need t R (C - p))) ∨ need t R C = 8 := by
  cases h : plB t R C
  · right
    have e := need_eq' t R C
    rw [h] at e
    simp only [Bool.false_eq_true, if_false] at e
    rcases minL_mem (minL 8 ((subs R).map fun p => 1 + max (need t p C) (need t (R - p) C))) ((subs C).map fun p => 1 + max (need t R p) (need t R (C - p))) with h1 | h1
    · rcases minL_mem 8 ((subs R).map fun p => 1 + max (need t p C) (need t (R - p) C)) with h2 | h2
      · right; right; rw [e, h1, h2]
      · left
        obtain ⟨p, hp, he⟩ := List.mem_map.1 h2
        exact ⟨p, hp, by rw [e, h1, ← he]⟩
    · right; left
      obtain ⟨p, hp, he⟩ := List.mem_map.1 h1
      exact ⟨p, hp, by rw [e, ← he]⟩
  · exact .inl rfl
theorem mapR_memE {α : Type} (f : Nat → α) (n : Nat) (x : α) (hx : x ∈ mapR f n) : ∃ i, i < n ∧ x = f i := by
  obtain ⟨i, hi, rfl⟩ := List.getElem_of_mem hx
  exact ⟨i, by simpa [mapR] using hi, by simp [mapR]⟩
/-- the turned task needs as much -/
theorem turn_facts {t : List (List Int)} (ht : taskB t = true) : (turnT t).length = wid t ∧ wid (turnT t) = t.length ∧ taskB (turnT t) = true ∧ ∀ i j, i < t.length → j < wid t → ent (turnT t) j i = ent t i j := by
  obtain ⟨hn, hm, -, h01⟩ := taskB_yes ht
  have e : turnT t = mapR (colL t) (wid t) := if_pos ht
  have hl : (turnT t).length = wid t := by rw [e, mapR_len]
  have hg : ∀ j, j < wid t → (turnT t).getD j [] = colL t j := fun j hj => by
    rw [List.getD, List.getElem?_eq_getElem (by rw [hl]; exact hj)]
    simp only [Option.getD_some]
    rw [show (turnT t)[j]'(by rw [hl]; exact hj) = (mapR (colL t) (wid t))[j]'(by rw [mapR_len]; exact hj) from by congr 1, mapR_get]
  have hcl : ∀ j, (colL t j).length = t.length := fun j => by unfold colL; rw [mapR_len]
  have hw : wid (turnT t) = t.length := by unfold wid; rw [hg 0 (by omega), hcl]
  have he : ∀ i j, i < t.length → j < wid t → ent (turnT t) j i = ent t i j := fun i j hi hj => by
    unfold ent
    rw [hg j hj, List.getD, List.getElem?_eq_getElem (by rw [hcl]; exact hi)]
    simp only [Option.getD_some]
    unfold colL
    rw [mapR_get]
    rfl
  refine ⟨hl, hw, ?_, he⟩
  unfold taskB
  simp only [Bool.and_eq_true, List.all_eq_true]
  refine ⟨inB_iff.2 (by omega), inB_iff.2 (by omega), fun row hrow => ?_⟩
  rw [e] at hrow
  obtain ⟨j, hj, rfl⟩ := List.getElem_of_mem hrow
  rw [mapR_len] at hj
  rw [mapR_get]
  unfold bitsB
  simp only [Bool.and_eq_true, List.all_eq_true]
  rw [hw]
  refine ⟨by simp [hcl], fun x hx => ?_⟩
  obtain ⟨i, hi, rfl⟩ := mapR_memE (fun i => ent t i j) t.length x hx
  have := ent01 ht hi hj
  rw [inB_iff]; omega
theorem plB_iff {t : List (List Int)} {R C : Nat} : plB t R C = true ↔ ¬ ((∃ i j, i < t.length ∧ j < wid t ∧ R.testBit i = true ∧ C.testBit j = true ∧ ent t i j = 1) ∧ ∃ i j, i < t.length ∧ j < wid t ∧ R.testBit i = true ∧ C.testBit j = true ∧ ent t i j = 0) := by
  rw [← hasP_iff, ← hasP_iff]
  unfold plB
  cases hasP t R C 1 t.length 0 <;> cases hasP t R C 0 t.length 0 <;> simp
theorem plB_turn {t : List (List Int)} (ht : taskB t = true) (R C : Nat) : plB (turnT t) C R = plB t R C := by
  obtain ⟨h1, h2, -, h3⟩ := turn_facts ht
  have key : ∀ v, (∃ i j, i < (turnT t).length ∧ j < wid (turnT t) ∧ C.testBit i = true ∧ R.testBit j = true ∧ ent (turnT t) i j = v) ↔ ∃ i j, i < t.length ∧ j < wid t ∧ R.testBit i = true ∧ C.testBit j = true ∧ ent t i j = v := by
    intro v
    rw [h1, h2]
    constructor
    · rintro ⟨i, j, a, b, c, d, e⟩
      exact ⟨j, i, b, a, d, c, by rw [← h3 j i b a]; exact e⟩
    · rintro ⟨i, j, a, b, c, d, e⟩
      exact ⟨j, i, b, a, d, c, by rw [h3 i j a b]; exact e⟩
  rw [Bool.eq_iff_iff, plB_iff, plB_iff, key, key]
theorem need_turn {t : List (List Int)} (ht : taskB t = true) : ∀ s R C, R + C = s → need (turnT t) C R = need t R C := by
  intro s
  induction s using Nat.strongRecOn with
  | _ s ih =>
    intro R C hs
    rw [need_eq', need_eq' t, plB_turn ht]
    split
    · rfl
    · rw [minL_comm]
      have e1 : (subs R).map (fun p => 1 + max (need (turnT t) C p) (need (turnT t) C (R - p))) = (subs R).map (fun p => 1 + max (need t p C) (need t (R - p) C)) := by
        refine List.map_congr_left fun p hp => ?_
        have := subs_mem hp
        rw [ih (p + C) (by omega) p C rfl, ih (R - p + C) (by omega) (R - p) C rfl]
      have e2 : (subs C).map (fun p => 1 + max (need (turnT t) p R) (need (turnT t) (C - p) R)) = (subs C).map (fun p => 1 + max (need t R p) (need t R (C - p))) := by
        refine List.map_congr_left fun p hp => ?_
        have := subs_mem hp
        rw [ih (R + p) (by omega) R p rfl, ih (R + (C - p)) (by omega) R (C - p) rfl]
      rw [e1, e2]
/-- a code of the numbers below n that a test takes -/
def mkM (P : Nat → Bool) : Nat → Nat
  | 0 => 0
  | n + 1 => mkM P n + if P n then 2 ^ n else 0
theorem mkM_bit (P : Nat → Bool) : ∀ n, mkM P n < 2 ^ n ∧ ∀ b, (mkM P n).testBit b = (decide (b < n) && P b)
  | 0 => ⟨Nat.zero_lt_one, fun b => by simp [mkM]⟩
  | n + 1 => by
    obtain ⟨h1, h2⟩ := mkM_bit P n
    unfold mkM
    split
    · next hp =>
      refine ⟨by rw [Nat.pow_succ]; omega, fun b => ?_⟩
      rw [add_two_pow_bit h1, h2]
      by_cases e : b = n
      · subst e; simp [hp]
      · have : decide (b < n + 1) = decide (b < n) := by rw [decide_eq_decide]; omega
        rw [this]; simp [e]
    · next hp =>
      refine ⟨by rw [Nat.pow_succ]; omega, fun b => ?_⟩
      rw [Nat.add_zero, h2]
      by_cases e : b = n
      · subst e; simp [hp]
      · have : decide (b < n + 1) = decide (b < n) := by rw [decide_eq_decide]; omega
        rw [this]
theorem sub_of_bits {R p n : Nat} (_hR : R < 2 ^ n) (_hn : n ≤ 4) (h : ∀ i, p.testBit i = true → R.testBit i = true) (h0 : ∃ i, p.testBit i = true) (h1 : ∃ i, R.testBit i = true ∧ p.testBit i = false) : p ∈ subs R := by
  have hand : p &&& R = p := by
    apply Nat.eq_of_testBit_eq
    intro i
    rw [Nat.testBit_and]
    have := h i
    cases e : p.testBit i <;> simp_all
  have hle : p ≤ R := by rw [← hand]; exact Nat.and_le_right
  refine (subs_iff R p).2 ⟨?_, ?_, hand⟩
  · obtain ⟨i, hi⟩ := h0
    rcases Nat.eq_zero_or_pos p with rfl | h
    · simp at hi
    · exact h
  · obtain ⟨i, hi, hi2⟩ := h1
    rcases Nat.lt_or_ge p R with e | e
    · exact e
    · obtain rfl : p = R := by omega
      rw [hi] at hi2; cases hi2
/-- one bit more than tells a row is enough -/
theorem need_rows {t : List (List Int)} (ht : taskB t = true) : ∀ (a : Nat) (V : List (List Int)) (R C : Nat), V.length ≤ 2 ^ a → R < 2 ^ t.length → C < 2 ^ wid t → (∀ i, i < t.length → R.testBit i = true → t.getD i [] ∈ V) → need t R C ≤ a + 1 := by
  obtain ⟨hn, hm, -, -⟩ := taskB_yes ht
  intro a
  induction a with
  | zero =>
    intro V R C hV hR hC hin
    cases hp : plB t R C
    · have hp' : ¬ plB t R C = true := by rw [hp]; simp
      rw [plB_iff] at hp'
      have hp2 := Classical.not_not.1 hp'
      obtain ⟨⟨i1, j1, a1, b1, c1, d1, e1⟩, i0, j0, a0, b0, c0, d0, e0⟩ := hp2
      have hsame : ∀ i, i < t.length → R.testBit i = true → t.getD i [] = t.getD i1 [] := by
        intro i hi hiR
        have m1 := hin i hi hiR
        have m2 := hin i1 a1 c1
        match V, hV, m1, m2 with
        | [v], _, m1, m2 => rw [List.mem_singleton.1 m1, List.mem_singleton.1 m2]
        | v :: u :: V', hV, _, _ => simp at hV
      have hent : ∀ i j, i < t.length → R.testBit i = true → ent t i j = ent t i1 j := fun i j hi hiR => by unfold ent; rw [hsame i hi hiR]
      obtain ⟨p, hpd⟩ : ∃ p, p = mkM (fun j => C.testBit j && (ent t i1 j == 1)) (wid t) := ⟨_, rfl⟩
      have hpb : ∀ j, p.testBit j = (decide (j < wid t) && (C.testBit j && (ent t i1 j == 1))) := fun j => by rw [hpd]; exact (mkM_bit _ _).2 j
      have hsub : p ∈ subs C := by
        refine sub_of_bits hC hm.2 (fun j hj => ?_) ⟨j1, by rw [hpb]; simp [b1, d1, e1]⟩ ⟨j0, d0, by rw [hpb, ← hent i0 j0 a0 c0, e0]; simp⟩
        rw [hpb] at hj
        simp only [Bool.and_eq_true] at hj
        exact hj.2.1
      have h1 := need_col (t := t) (R := R) hsub
      have q1 : plB t R p = true := by
        rw [plB_iff]
        rintro ⟨-, i, j, x1, x2, x3, x4, x5⟩
        rw [hent i j x1 x3] at x5
        rw [hpb, x5] at x4
        simp at x4
      have q2 : plB t R (C - p) = true := by
        rw [plB_iff]
        rintro ⟨⟨i, j, x1, x2, x3, x4, x5⟩, -⟩
        rw [hent i j x1 x3] at x5
        rw [(sub_bits (Nat.lt_of_lt_of_le hC (Nat.pow_le_pow_right (by decide) hm.2)) hsub).2.1, hpb, x5] at x4
        simp [x2] at x4
      rw [need_plain q1, need_plain q2] at h1
      omega
    · rw [need_plain hp]; omega
  | succ a ih =>
    intro V R C hV hR hC hin
    obtain ⟨p, hpd⟩ : ∃ p, p = mkM (fun i => R.testBit i && (V.take (2 ^ a)).contains (t.getD i [])) t.length := ⟨_, rfl⟩
    have hpb : ∀ i, p.testBit i = (decide (i < t.length) && (R.testBit i && (V.take (2 ^ a)).contains (t.getD i []))) := fun i => by rw [hpd]; exact (mkM_bit _ _).2 i
    have hpl : p < 2 ^ t.length := by rw [hpd]; exact (mkM_bit _ _).1
    have hV1 : (V.take (2 ^ a)).length ≤ 2 ^ a := by rw [List.length_take]; omega
    have hV2 : (V.drop (2 ^ a)).length ≤ 2 ^ a := by rw [List.length_drop]; rw [Nat.pow_succ] at hV; omega
    have hsp : ∀ i, i < t.length → R.testBit i = true → p.testBit i = false → t.getD i [] ∈ V.drop (2 ^ a) := by
      intro i hi hiR hip
      have hm0 := hin i hi hiR
      rw [hpb, hiR, decide_eq_true hi, Bool.true_and, Bool.true_and] at hip
      rw [← List.take_append_drop (2 ^ a) V, List.mem_append] at hm0
      exact hm0.resolve_left fun hmem => by rw [List.contains_iff_mem.2 hmem] at hip; cases hip
    have hp1 : ∀ i, i < t.length → p.testBit i = true → t.getD i [] ∈ V.take (2 ^ a) := by
      intro i hi hip
      rw [hpb] at hip
      simp only [Bool.and_eq_true] at hip
      simpa using hip.2.2
    by_cases hA : ∃ i, p.testBit i = true
    · by_cases hB : ∃ i, R.testBit i = true ∧ p.testBit i = false
      · have hsub : p ∈ subs R := sub_of_bits hR hn.2 (fun i hi => by rw [hpb] at hi; simp only [Bool.and_eq_true] at hi; exact hi.2.1) hA hB
        have hR16 : R < 16 := Nat.lt_of_lt_of_le hR (Nat.pow_le_pow_right (by decide) hn.2)
        have h1 := need_row (t := t) (C := C) hsub
        have h2 := ih (V.take (2 ^ a)) p C hV1 hpl hC hp1
        have h3 := ih (V.drop (2 ^ a)) (R - p) C hV2 (Nat.lt_of_le_of_lt (Nat.sub_le _ _) hR) hC (fun i hi hib => by
          rw [(sub_bits hR16 hsub).2.1] at hib
          simp only [Bool.and_eq_true, Bool.not_eq_true'] at hib
          exact hsp i hi hib.1 hib.2)
        omega
      · have := ih (V.take (2 ^ a)) R C hV1 hR hC (fun i hi hiR => by
          cases e : p.testBit i
          · exact absurd ⟨i, hiR, e⟩ hB
          · exact hp1 i hi e)
        omega
    · have := ih (V.drop (2 ^ a)) R C hV2 hR hC (fun i hi hiR => by
        cases e : p.testBit i
        · exact hsp i hi hiR e
        · exact absurd ⟨i, e⟩ hA)
      omega
end Go.Proofs.Ytpieaeokbblflaa
