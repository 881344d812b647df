/- The steps of the best talk, reckoned, and a talk under way in memory; conditions: none. -/
import Derived.Test.YtpieaeokbblflaaFstF
import Derived.Test.YtpieaeokbblflaaTalk
import Derived.Test.YtpieaeokbblflaaAppG
namespace Go.Proofs.Ytpieaeokbblflaa
open Go.RowKit

/-- a step: who speaks, what is said, where it leads -/
abbrev Step := Int × List Int × (Int × Int)
/-- the steps for a rectangle, the first one at a place, and what leads to them -/
def stepsF (t : List (List Int)) : Nat → Nat → Nat → Nat → List Step × Int
  | 0, _, _, _ => ([], 0)
  | f + 1, R, C, pos => if plB t R C then ([], -1 - plN t R C) else
      if (firstV t R C).1 = 0 then
        ((0, bitsL t.length (firstV t R C).2, ((stepsF t f (R - (firstV t R C).2) C (pos + 1)).2, (stepsF t f (firstV t R C).2 C (pos + 1 + (stepsF t f (R - (firstV t R C).2) C (pos + 1)).1.length)).2)) ::
          ((stepsF t f (R - (firstV t R C).2) C (pos + 1)).1 ++ (stepsF t f (firstV t R C).2 C (pos + 1 + (stepsF t f (R - (firstV t R C).2) C (pos + 1)).1.length)).1), (pos : Int))
      else
        ((1, bitsL (wid t) (firstV t R C).2, ((stepsF t f R (C - (firstV t R C).2) (pos + 1)).2, (stepsF t f R (firstV t R C).2 (pos + 1 + (stepsF t f R (C - (firstV t R C).2) (pos + 1)).1.length)).2)) ::
          ((stepsF t f R (C - (firstV t R C).2) (pos + 1)).1 ++ (stepsF t f R (firstV t R C).2 (pos + 1 + (stepsF t f R (C - (firstV t R C).2) (pos + 1)).1.length)).1), (pos : Int))
theorem stepsF_0 {t : List (List Int)} {f R C pos p : Nat} (hp : plB t R C = false) (hf : firstV t R C = (0, p)) : stepsF t (f + 1) R C pos =
    ((0, bitsL t.length p, ((stepsF t f (R - p) C (pos + 1)).2, (stepsF t f p C (pos + 1 + (stepsF t f (R - p) C (pos + 1)).1.length)).2)) :: ((stepsF t f (R - p) C (pos + 1)).1 ++ (stepsF t f p C (pos + 1 + (stepsF t f (R - p) C (pos + 1)).1.length)).1), (pos : Int)) := by
  conv => lhs; unfold stepsF
  rw [if_neg (by rw [hp]; simp), hf, if_pos rfl]
theorem stepsF_1 {t : List (List Int)} {f R C pos p : Nat} (hp : plB t R C = false) (hf : firstV t R C = (1, p)) : stepsF t (f + 1) R C pos =
    ((1, bitsL (wid t) p, ((stepsF t f R (C - p) (pos + 1)).2, (stepsF t f R p (pos + 1 + (stepsF t f R (C - p) (pos + 1)).1.length)).2)) :: ((stepsF t f R (C - p) (pos + 1)).1 ++ (stepsF t f R p (pos + 1 + (stepsF t f R (C - p) (pos + 1)).1.length)).1), (pos : Int)) := by
  conv => lhs; unfold stepsF
  rw [if_neg (by rw [hp]; simp), hf, if_neg (by simp)]
def stP (l : List Step) : List Int := l.map (·.1)
def stS (l : List Step) : List (List Int) := l.map (·.2.1)
def stX (l : List Step) : List (Int × Int) := l.map (·.2.2)
theorem stepsF_len (t : List (List Int)) : ∀ f R C pos, (stepsF t f R C pos).1.length + 1 ≤ 2 ^ f
  | 0, R, C, pos => by simp [stepsF]
  | f + 1, R, C, pos => by
    have h := stepsF_len t f
    unfold stepsF
    split
    · simp only [List.length_nil]
      have : 0 < 2 ^ (f + 1) := Nat.pow_pos (by decide)
      omega
    · split
      · have a := h (R - (firstV t R C).2) C (pos + 1)
        have b := h (firstV t R C).2 C (pos + 1 + (stepsF t f (R - (firstV t R C).2) C (pos + 1)).1.length)
        simp only [List.length_cons, List.length_append]
        rw [Nat.pow_succ]
        omega
      · have a := h R (C - (firstV t R C).2) (pos + 1)
        have b := h R (firstV t R C).2 (pos + 1 + (stepsF t f R (C - (firstV t R C).2) (pos + 1)).1.length)
        simp only [List.length_cons, List.length_append]
        rw [Nat.pow_succ]
        omega
/-- .. and what a talk is behind them -/
def addS (r : TalkD) (l : List Step) : TalkD := ⟨r.p ++ stP l, r.s ++ stS l, r.x ++ stX l⟩
theorem addS_nil (r : TalkD) : addS r [] = r := by simp [addS, stP, stS, stX]
theorem addS_add (r : TalkD) (l k : List Step) : addS (addS r l) k = addS r (l ++ k) := by simp [addS, stP, stS, stX]

/-- out = append(out, pair), the new pair in a block of its own -/
theorem wp_append_pairG {ops : Array Oper} {rest : List Oper} {o : Oper} {a : Act} {Q : Exit → Act → World → Prop} (w : World) (hgd : o.guard = none) (s x : Operand)
    (ho : o.op = .call { callee := .builtin .append, args := #[s, x], argTypes := #[36, 36] }) (B : Nat) (v : Value) (ps : List (Int × Int)) (hs : a.eval s = v) (hown : OwnPr w B v ps)
    (y z : Int) {g : Nat} (hx : a.eval x = .slice (some ⟨g, 0, none⟩) 1 1) (hg0 : w.cell? ⟨g, 0, none⟩ = some (.int .i64 y)) (hg1 : w.cell? ⟨g, 1, none⟩ = some (.int .i64 z)) (hlen : ps.length < 1099511627776) (hB : B ≤ w.heap.size)
    (h : ∀ v' w', OwnPr w' B v' (ps ++ [(y, z)]) → w.grownBy w' v.ownBlock → (v'.ownBlock = v.ownBlock ∨ v'.ownBlock = some w.heap.size) → wpList Try.prog ops Q rest (a.put o.dst v') w') :
    wpList Try.prog ops Q (o :: rest) a w := by
  obtain ⟨i0, hi, hz0, hz1, hz2⟩ := info_parts info_pair
  refine wpList_append_own_at _ hgd s x 36 ho B 76 i0 _ 2 16 Try.underlying36 hi hz0 hz1 hz2 rfl (by decide) v ps.length ((flat ps).map (Value.int .i64)) hs hown.1 ⟨g, 0, none⟩ 1 1 [.int .i64 y, .int .i64 z] hx rfl ?_ ?_
    (by unfold maxLen; omega) (by omega) hB fun v' w' h1 h2 h3 h4 => ?_
  · intro j u hu
    rw [Addr.add_lit]
    rcases j with _ | _ | j
    · simp at hu; subst hu; exact hg0
    · simp at hu; subst hu; exact hg1
    · simp at hu
  · intro u hu
    simp at hu
    rcases hu with rfl | rfl <;> rfl
  · refine h v' w' ⟨?_, by simp; omega⟩ h2 h4
    have e : (flat (ps ++ [(y, z)])).map (Value.int .i64) = (flat ps).map (Value.int .i64) ++ [.int .i64 y, .int .i64 z] := by rw [flat_app]; simp [flat]
    rw [e]
    simpa using h1
/-- out = append(out, n), the new number in a block of its own -/
theorem wp_append_intG {ops : Array Oper} {rest : List Oper} {o : Oper} {a : Act} {Q : Exit → Act → World → Prop} (w : World) (hgd : o.guard = none) (s x : Operand)
    (ho : o.op = .call { callee := .builtin .append, args := #[s, x], argTypes := #[31, 31] }) (B : Nat) (v : Value) (xs : List Int) (hs : a.eval s = v) (hown : OwnI w B v xs)
    (n : Int) {g : Nat} (hx : a.eval x = .slice (some ⟨g, 0, none⟩) 1 1) (hg : w.cell? ⟨g, 0, none⟩ = some (.int .i64 n)) (hlen : xs.length < 1099511627776) (hB : B ≤ w.heap.size)
    (h : ∀ v' w', OwnI w' B v' (xs ++ [n]) → w.grownBy w' v.ownBlock → (v'.ownBlock = v.ownBlock ∨ v'.ownBlock = some w.heap.size) → wpList Try.prog ops Q rest (a.put o.dst v') w') :
    wpList Try.prog ops Q (o :: rest) a w := by
  refine wp_append_intsG w hgd s x ho B v xs hs hown _ [n] hx ⟨some ⟨g, 0, none⟩, 1, by simp, by simp, fun j u hu => ?_⟩ (by simp) (by simp; omega) hB fun v' w' h1 h2 _ h4 => h v' w' h1 h2 h4
  have : j = 0 := by have := (List.getElem?_eq_some_iff.1 hu).1; simpa using this
  subst this
  simp at hu
  subst hu
  exact ⟨g, 0, rfl, World.block_lt_of_cell? w _ hg, hg⟩

/-- a talk in blocks of the call's own -/
def OwnT3 (w : World) (B : Nat) (F : Nat → Prop) (v1 v2 v3 : Value) (r : TalkD) : Prop :=
  ∃ F1 F2 F3 : Nat → Prop, OwnF w B F1 v1 r.p ∧ OwnR w B F2 v2 r.s ∧ OwnP w B F3 v3 r.x ∧ (∀ k, F1 k → F k) ∧ (∀ k, F2 k → F k) ∧ (∀ k, F3 k → F k) ∧ (∀ k, F1 k → ¬ F2 k) ∧ (∀ k, F1 k → ¬ F3 k) ∧ (∀ k, F2 k → ¬ F3 k)
theorem OwnT3.mono {w : World} {B : Nat} {F G : Nat → Prop} {v1 v2 v3 : Value} {r : TalkD} (h : OwnT3 w B F v1 v2 v3 r) (hG : ∀ k, F k → G k) : OwnT3 w B G v1 v2 v3 r := by
  obtain ⟨F1, F2, F3, h1, h2, h3, i1, i2, i3, d⟩ := h
  exact ⟨F1, F2, F3, h1, h2, h3, fun k h => hG k (i1 k h), fun k h => hG k (i2 k h), fun k h => hG k (i3 k h), d⟩
theorem OwnT3.off {w w' : World} {B : Nat} {F G : Nat → Prop} {v1 v2 v3 : Value} {r : TalkD} (h : OwnT3 w B F v1 v2 v3 r) (hk : KeptOff G w w') (hd : ∀ k, F k → ¬ G k) : OwnT3 w' B F v1 v2 v3 r := by
  obtain ⟨F1, F2, F3, h1, h2, h3, i1, i2, i3, d⟩ := h
  exact ⟨F1, F2, F3, h1.off hk fun k f => hd k (i1 k f), h2.off hk fun k f => hd k (i2 k f), h3.off hk fun k f => hd k (i3 k f), i1, i2, i3, d⟩
theorem OwnT3.form {w : World} {B : Nat} {F : Nat → Prop} {v1 v2 v3 : Value} {r : TalkD} (h : OwnT3 w B F v1 v2 v3 r) : ∃ a1 k1 a2 k2 a3 k3, v1 = .slice a1 r.p.length k1 ∧ v2 = .slice a2 r.s.length k2 ∧ v3 = .slice a3 r.x.length k3 := by
  obtain ⟨F1, F2, F3, h1, h2, h3, -⟩ := h
  obtain ⟨a1, k1, rfl, -, -⟩ := h1.rd.out
  obtain ⟨a2, k2, rfl, -⟩ := h2.rows.out
  obtain ⟨a3, k3, rfl, -⟩ := h3.rd.out
  exact ⟨_, _, _, _, _, _, rfl, rfl, rfl⟩
theorem OwnT3.below {w w' : World} {B : Nat} {F : Nat → Prop} {v1 v2 v3 : Value} {r : TalkD} (h : OwnT3 w B F v1 v2 v3 r) (hb : Below w.heap.size w w') : OwnT3 w' B F v1 v2 v3 r :=
  h.off (kept0 hb) fun _ _ h => h
end Go.Proofs.Ytpieaeokbblflaa
