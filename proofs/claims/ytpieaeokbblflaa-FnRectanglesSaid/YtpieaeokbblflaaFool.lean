/- Fooling lists, reckoned, and appending to lists of pairs; conditions: none. -/
import Derived.Test.YtpieaeokbblflaaPairsC
import Derived.Test.YtpieaeokbblflaaOwn
import Derived.Test.YtpieaeokbblflaaTurn
import Derived.ArgAppend
namespace Go.Proofs.Ytpieaeokbblflaa
open Go.RowKit

/-- out = append(out, pair): the world in which the new pair has been laid -/
theorem wp_append_pair {ops : Array Oper} {rest : List Oper} {o : Oper} {a : Act} {Q : Exit → Act → World → Prop} (w : World) (x y : Int) (hgd : o.guard = none) (s e : Operand)
    (ho : o.op = .call { callee := .builtin .append, args := #[s, e], argTypes := #[36, 36] }) (B : Nat) (v : Value) (ps : List (Int × Int)) (hs : a.eval s = v) (hown : OwnPr w B v ps)
    {g : Nat} (hx : a.eval e = .slice (some ⟨g, 0, none⟩) 1 1) (hg : g = w.heap.size) (hlen : ps.length < 1099511627776) (hB : B ≤ w.heap.size)
    (h : ∀ v' w', OwnPr w' B v' (ps ++ [(x, y)]) → w.grownBy w' v.ownBlock → Below B w w' → wpList Try.prog ops Q rest (a.put o.dst v') w') :
    wpList Try.prog ops Q (o :: rest) a (w.alloc (.cells #[.int .i64 x, .int .i64 y] 76)) := by
  subst hg
  obtain ⟨i0, hi, hz0, hz1, hz2⟩ := info_parts info_pair
  have hal := World.grownBy_alloc w (.cells #[.int .i64 x, .int .i64 y] 76) none
  refine wpList_append_own _ hgd s e 36 ho B 76 i0 _ 2 16 Try.underlying36 hi hz0 hz1 hz2 rfl (by decide) v ps.length ((flat ps).map (Value.int .i64)) hs (hown.1.alloc _) ⟨w.heap.size, 0, none⟩ 1 1 [.int .i64 x, .int .i64 y] hx rfl ?_ ?_
    (by unfold maxLen; omega) (by omega) (by simp; omega) fun v' w' h1 h2 h3 => ?_
  · intro j u hu
    rw [Addr.add_lit, World.cell?_alloc_at _ _ _ _ rfl]
    rcases j with _ | _ | j
    · simpa using hu
    · simpa using hu
    · simp at hu
  · intro u hu
    simp at hu
    rcases hu with rfl | rfl <;> rfl
  · have hgr := grown_trans hal h2
    refine h v' w' ⟨?_, by simp; omega⟩ hgr ((Below.refl _ _).grown hgr hB fun k hk => (OwnD.lt hown k hk).1)
    have e : (flat (ps ++ [(x, y)])).map (Value.int .i64) = (flat ps).map (Value.int .i64) ++ [.int .i64 x, .int .i64 y] := by rw [flat_app]; simp [flat]
    rw [e]
    simpa using h1
theorem ownPr_empty (w : World) (B : Nat) (hB : B ≤ w.heap.size) : OwnPr (w.alloc (.cells #[] 76)) B (.slice (some ⟨w.heap.size, 0, none⟩) 0 0) [] :=
  ⟨by simpa [flat] using World.ownsRow_made w #[] 0 hB (Nat.zero_le _) (by simp), by simp⟩
theorem ownPr_nil (w : World) (B : Nat) : OwnPr w B (.slice none 0 0) [] := ⟨by simpa [flat] using World.ownsRow_nil w B 76 2, by simp⟩


/-- out = append(out, pairs...) -/
theorem wp_append_pairs {ops : Array Oper} {rest : List Oper} {o : Oper} {a : Act} {Q : Exit → Act → World → Prop} (w : World) (hgd : o.guard = none) (s x : Operand)
    (ho : o.op = .call { callee := .builtin .append, args := #[s, x], argTypes := #[36, 36] }) (B : Nat) (v : Value) (ps : List (Int × Int)) (hs : a.eval s = v) (hown : OwnPr w B v ps)
    (u : Value) (qs : List (Int × Int)) (hx : a.eval x = u) (hy : Pairs w u qs) (hlen : ps.length + qs.length ≤ 1048576) (hB : B ≤ w.heap.size)
    (h : ∀ v' w', OwnPr w' B v' (ps ++ qs) → w.grownBy w' v.ownBlock → Below B w w' → wpList Try.prog ops Q rest (a.put o.dst v') w') :
    wpList Try.prog ops Q (o :: rest) a w := by
  obtain ⟨ad, cap, rfl, hl, hc⟩ := hy
  obtain ⟨i0, hi, hz0, hz1, hz2⟩ := info_parts info_pair
  by_cases h0 : qs.length = 0
  · have : qs = [] := List.length_eq_zero_iff.1 h0
    subst this
    cases ad with
    | none =>
      have hcap : cap = cap := rfl
      refine wp_append_nothing hgd s x 36 ho B 76 i0 2 Try.underlying36 hi v ps.length cap ((flat ps).map (Value.int .i64)) hs (by simpa using hown.1) (by simpa using hx) ?_
      exact h v w (by simpa using hown) ⟨rfl, rfl, rfl, Nat.le_refl _, fun _ _ _ => rfl⟩ (Below.refl _ _)
    | some ad =>
      refine wpList_append_own _ hgd s x 36 ho B 76 i0 _ 2 16 Try.underlying36 hi hz0 hz1 hz2 rfl (by decide) v ps.length ((flat ps).map (Value.int .i64)) hs hown.1 ad 0 cap [] (by simpa using hx) rfl (by simp) (by simp)
        (by unfold maxLen; omega) (by omega) (by omega) fun v' w' h1 h2 h3 => ?_
      exact h v' w' ⟨by simpa using h1, by simp; omega⟩ h2 ((Below.refl _ _).grown h2 hB fun k hk => (OwnD.lt hown k hk).1)
  · have hf : 0 < (flat qs).length := by rw [flat_len]; omega
    obtain ⟨b, off, rfl, -, -⟩ := hc 0 hf
    refine wpList_append_own _ hgd s x 36 ho B 76 i0 _ 2 16 Try.underlying36 hi hz0 hz1 hz2 rfl (by decide) v ps.length ((flat ps).map (Value.int .i64)) hs hown.1 ⟨b, off, none⟩ qs.length cap ((flat qs).map (Value.int .i64)) hx (by rw [List.length_map, flat_len]; omega) ?_ ?_
      (by unfold maxLen; omega) (by omega) (by omega) fun v' w' h1 h2 h3 => ?_
    · intro j u hu
      simp only [List.getElem?_map, Option.map_eq_some_iff] at hu
      obtain ⟨y, hy', rfl⟩ := hu
      obtain ⟨hj, rfl⟩ := List.getElem?_eq_some_iff.1 hy'
      obtain ⟨b', off', e, -, hc'⟩ := hc j hj
      cases e
      rw [Addr.add_lit]
      exact hc'
    · intro u hu
      obtain ⟨y, -, rfl⟩ := List.mem_map.1 hu
      rfl
    · exact h v' w' ⟨by rw [flat_app, List.map_append, List.length_append]; exact h1, by simp; omega⟩ h2 ((Below.refl _ _).grown h2 hB fun k hk => (OwnD.lt hown k hk).1)

/-! the plain law -/
def ok2 (t : List (List Int)) (bit : Int) (m a b : Nat) : Bool := (ent t (a / m) (b % m) != bit) || (ent t (b / m) (a % m) != bit)
def isAt (t : List (List Int)) (bit : Int) (m a : Nat) : Bool := ent t (a / m) (a % m) == bit
def fits2 (t : List (List Int)) (bit : Int) (m : Nat) (L : List Nat) (a : Nat) : Bool := L.all (ok2 t bit m a)
def fits1 (t : List (List Int)) (bit : Int) (m : Nat) (L : List Nat) (a : Nat) : Bool := isAt t bit m a && fits2 t bit m L a
def longer (b x : List Nat) : List Nat := if b.length < x.length then x else b
def loopF (fit : List Nat → Nat → Bool) : List Nat → List Nat → List Nat → List Nat
  | [], _, best => best
  | a :: rest, L, best => loopF fit rest L (if fit L a then longer best (loopF fit rest (L ++ [a]) (L ++ [a])) else best)
def rng (a N : Nat) : List Nat := List.range' a (N - a)
theorem rng_next {a N : Nat} (h : a < N) : rng a N = a :: rng (a + 1) N := by
  unfold rng
  rw [show N - a = (N - (a + 1)) + 1 by omega, List.range'_succ]
theorem rng_end (N : Nat) : rng N N = [] := by simp [rng]
theorem longer_assoc (a b c : List Nat) : longer (longer a b) c = longer a (longer b c) := by
  unfold longer
  by_cases h1 : a.length < b.length <;> by_cases h2 : b.length < c.length <;> by_cases h3 : a.length < c.length <;> simp [h1, h2, h3] <;> omega
theorem loop_longer (fit : List Nat → Nat → Bool) : ∀ (rest L x y : List Nat), loopF fit rest L (longer x y) = longer x (loopF fit rest L y)
  | [], L, x, y => rfl
  | a :: rest, L, x, y => by
    unfold loopF
    split
    · rw [longer_assoc, loop_longer fit rest]
    · rw [loop_longer fit rest]
theorem loop_filter (t : List (List Int)) (bit : Int) (m : Nat) : ∀ (rest L best : List Nat), loopF (fits1 t bit m) rest L best = loopF (fits2 t bit m) (rest.filter (isAt t bit m)) L best
  | [], L, best => rfl
  | a :: rest, L, best => by
    cases h : isAt t bit m a
    · rw [List.filter_cons_of_neg (by simp [h])]
      conv => lhs; unfold loopF
      rw [if_neg (by simp [fits1, h]), loop_filter t bit m rest]
    · rw [List.filter_cons_of_pos h]
      conv => lhs; unfold loopF
      conv => rhs; unfold loopF
      rw [show fits1 t bit m L a = fits2 t bit m L a by simp [fits1, h], loop_filter t bit m rest, loop_filter t bit m rest]
theorem loop_len (fit : List Nat → Nat → Bool) : ∀ (rest L best : List Nat) (n : Nat), best.length ≤ n → L.length + rest.length ≤ n → (loopF fit rest L best).length ≤ n
  | [], L, best, n, h1, h2 => h1
  | a :: rest, L, best, n, h1, h2 => by
    simp only [List.length_cons] at h2
    unfold loopF
    refine loop_len fit rest L _ n ?_ (by omega)
    split
    · unfold longer
      split
      · exact loop_len fit rest (L ++ [a]) (L ++ [a]) n (by simp; omega) (by simp; omega)
      · exact h1
    · exact h1
/-- the pair of a place -/
def prC (m a : Nat) : Int × Int := (((a / m : Nat) : Int), ((a % m : Nat) : Int))
def prL (m : Nat) (L : List Nat) : List (Int × Int) := L.map (prC m)
def foolB (t : List (List Int)) (bit : Int) : Bool := taskB t && inB 0 1 bit
def foolL (t : List (List Int)) (bit : Int) : List (Int × Int) := if foolB t bit then prL (wid t) (loopF (fits1 t bit (wid t)) (rng 0 (t.length * wid t)) [] []) else []
end Go.Proofs.Ytpieaeokbblflaa
