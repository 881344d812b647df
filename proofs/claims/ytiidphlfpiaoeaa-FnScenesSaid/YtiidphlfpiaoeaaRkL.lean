/- Sets of bits as equations: how many solutions, which ranks, which proofs; conditions: none. -/
import Derived.Test.YtiidphlfpiaoeaaCN
import Derived.Test.YtiidphlfpiaoeaaSceneLaw
namespace Go.Proofs.Ytiidphlfpiaoeaa
open Go.RowKit

/-- the parity of the bits of a list at the places of a set -/
def par (m : Nat) : List Int → Bool
  | [] => false
  | x :: l => ((m.testBit 0 && x == 1) ^^ par (m / 2) l)
theorem par_zero (l : List Int) : par 0 l = false := by
  induction l with
  | nil => rfl
  | cons x l ih => simp [par, ih]
theorem half_xor (a b : Nat) : (a ^^^ b) / 2 = a / 2 ^^^ b / 2 := by
  refine Nat.eq_of_testBit_eq fun i => ?_
  simp [Nat.testBit_div_two]
theorem par_xor (a b : Nat) (l : List Int) : par (a ^^^ b) l = (par a l ^^ par b l) := by
  induction l generalizing a b with
  | nil => rfl
  | cons x l ih =>
    simp only [par]
    rw [half_xor, ih, Nat.testBit_xor]
    cases a.testBit 0 <;> cases b.testBit 0 <;> cases (x == 1) <;> cases par (a / 2) l <;> cases par (b / 2) l <;> rfl
theorem par_flip (m e : Nat) (l : List Int) (he : e < l.length) (hb : ∀ x ∈ l, x = 0 ∨ x = 1) : par m (flipAt e l) = (par m l ^^ m.testBit e) := by
  induction l generalizing m e with
  | nil => simp at he
  | cons x l ih =>
    cases e with
    | zero =>
      have : flipAt 0 (x :: l) = (1 - x) :: l := by simp [flipAt]
      rw [this]
      simp only [par]
      rcases hb x (by simp) with h | h <;> subst h <;> cases m.testBit 0 <;> cases par (m / 2) l <;> rfl
    | succ e =>
      have : flipAt (e + 1) (x :: l) = x :: flipAt e l := by simp [flipAt]
      rw [this]
      simp only [par]
      rw [ih (m / 2) e (by simpa using he) fun y hy => hb y (by simp [hy]), Nat.testBit_div_two]
      cases m.testBit 0 <;> cases (x == 1) <;> cases par (m / 2) l <;> cases m.testBit (e + 1) <;> rfl
theorem par_pow (e : Nat) (l : List Int) : par (2 ^ e) l = (l.getD e 0 == 1) := by
  induction l generalizing e with
  | nil => simp [par]
  | cons x l ih =>
    cases e with
    | zero => simp [par, par_zero]
    | succ e =>
      have h1 : 2 ^ (e + 1) / 2 = 2 ^ e := by rw [Nat.pow_succ]; omega
      have h2 : (2 ^ (e + 1)).testBit 0 = false := by simp
      simp only [par, h1, h2, ih]
      simp
theorem or_xor (a e : Nat) (h : a.testBit e = false) : a ||| 2 ^ e = a ^^^ 2 ^ e := by
  refine Nat.eq_of_testBit_eq fun i => ?_
  rw [Nat.testBit_or, Nat.testBit_xor, Nat.testBit_two_pow]
  by_cases hi : e = i
  · subst hi; simp [h]
  · simp [hi]
theorem par_mask (c : List Int) (a : Nat) (l : List Int) (hn : c.Nodup) (h0 : ∀ x ∈ c, 0 ≤ x ∧ a.testBit x.toNat = false) (hl : ∀ x ∈ l, x = 0 ∨ x = 1) :
    par (maskN c a) l = (par a l ^^ ((c.map fun e : Int => l.getD e.toNat 0).sum % 2 == 1)) := by
  induction c generalizing a with
  | nil => simp [maskN]
  | cons e c ih =>
    obtain ⟨hx, hc⟩ := List.nodup_cons.1 hn
    obtain ⟨e0, e1⟩ := h0 e (by simp)
    simp only [maskN]
    rw [ih _ hc fun x hx2 => ⟨(h0 x (by simp [hx2])).1, by
      rw [Nat.testBit_or, (h0 x (by simp [hx2])).2, Nat.testBit_two_pow]
      have h1 := (h0 x (by simp [hx2])).1
      have : ¬ e.toNat = x.toNat := fun q => hx (by rw [show e = x by omega]; exact hx2)
      simp [this]⟩]
    rw [or_xor a e.toNat e1, par_xor, par_pow]
    simp only [List.map_cons, List.sum_cons]
    have hb : l.getD e.toNat 0 = 0 ∨ l.getD e.toNat 0 = 1 := by
      by_cases h : e.toNat < l.length
      · rw [List.getD, List.getElem?_eq_getElem h]; exact hl _ (List.getElem_mem h)
      · rw [List.getD, List.getElem?_eq_none (by omega)]; exact .inl rfl
    obtain ⟨S, hS⟩ : ∃ S, S = (c.map fun e : Int => l.getD e.toNat 0).sum := ⟨_, rfl⟩
    rw [← hS]
    rcases hb with h | h <;> rw [h]
    · rw [Int.zero_add]; simp
    · have : ((1 + S) % 2 == 1) = !(S % 2 == 1) := by
        rw [Bool.eq_iff_iff]
        simp only [beq_iff_eq, Bool.not_eq_true', beq_eq_false_iff_ne]
        omega
      rw [this]
      cases par a l <;> cases (S % 2 == 1) <;> rfl

/-- who solves all equations -/
def satR (R : List (Nat × Bool)) (l : List Int) : Bool := R.all fun r => par r.1 l == r.2
theorem CN_true : ∀ n, CN (fun _ => true) n = 2 ^ n
  | 0 => rfl
  | n + 1 => by simp only [CN, CN_true n, Nat.pow_succ]; omega
theorem CN_split (p q : List Int → Bool) : ∀ n, CN (fun l => p l && q l) n + CN (fun l => p l && !q l) n = CN p n := by
  intro n
  induction n generalizing p q with
  | zero => simp only [CN]; by_cases hp : p [] = true <;> by_cases hq : q [] = true <;> simp [hp, hq]
  | succ n ih =>
    simp only [CN]
    have h0 := ih (fun l => p (0 :: l)) (fun l => q (0 :: l))
    have h1 := ih (fun l => p (1 :: l)) (fun l => q (1 :: l))
    omega
/-- equations with pivots: each has its own, and those behind it have it not -/
def Tri (n : Nat) (T : List ((Nat × Bool) × Nat)) : Prop := (∀ t ∈ T, t.2 < n ∧ t.1.1.testBit t.2 = true) ∧ T.Pairwise fun t u => u.1.1.testBit t.2 = false
theorem tri_count (n : Nat) : ∀ T : List ((Nat × Bool) × Nat), Tri n T → CN (satR (T.map Prod.fst)) n * 2 ^ T.length = 2 ^ n := by
  intro T
  induction T with
  | nil => intro _; show CN (fun _ => true) n * 1 = _; rw [CN_true, Nat.mul_one]
  | cons t T ih =>
    intro ⟨h1, h2⟩
    obtain ⟨hp, hT⟩ := List.pairwise_cons.1 h2
    obtain ⟨e1, e2⟩ := h1 t (by simp)
    have hi := ih ⟨fun u hu => h1 u (by simp [hu]), hT⟩
    have s1 := CN_split (satR (T.map Prod.fst)) (fun l => par t.1.1 l == t.1.2) n
    have s2 : CN (satR ((t :: T).map Prod.fst)) n = CN (fun l => satR (T.map Prod.fst) l && (par t.1.1 l == t.1.2)) n := CN_congr n fun l _ => by
      simp only [satR, List.map_cons, List.all_cons]
      exact Bool.and_comm _ _
    have s3 : CN (fun l => satR (T.map Prod.fst) l && (par t.1.1 l == t.1.2)) n = CN (fun l => satR (T.map Prod.fst) l && !(par t.1.1 l == t.1.2)) n := by
      rw [← CN_flip (fun l => satR (T.map Prod.fst) l && (par t.1.1 l == t.1.2)) n t.2 e1]
      refine CN_congr n fun l hl => ?_
      have q1 : satR (T.map Prod.fst) (flipAt t.2 l) = satR (T.map Prod.fst) l := by
        unfold satR
        rw [Bool.eq_iff_iff]
        simp only [List.all_eq_true, List.mem_map]
        constructor
        · rintro h r ⟨u, hu, rfl⟩
          have := h u.1 ⟨u, hu, rfl⟩
          rw [par_flip _ _ _ (by rw [hl.1]; exact e1) hl.2, hp u hu, Bool.xor_false] at this
          exact this
        · rintro h r ⟨u, hu, rfl⟩
          have := h u.1 ⟨u, hu, rfl⟩
          rw [par_flip _ _ _ (by rw [hl.1]; exact e1) hl.2, hp u hu, Bool.xor_false]
          exact this
      rw [q1, par_flip _ _ _ (by rw [hl.1]; exact e1) hl.2, e2]
      cases satR (T.map Prod.fst) l <;> cases par t.1.1 l <;> cases t.1.2 <;> rfl
    rw [s2]
    simp only [List.length_cons, Nat.pow_succ]
    rw [← hi, ← s1, ← s3]
    generalize CN (fun l => satR (T.map Prod.fst) l && (par t.1.1 l == t.1.2)) n = A
    rw [← Nat.mul_assoc, Nat.mul_right_comm, Nat.mul_comm (A + A)]
    rw [show A + A = A * 2 by omega, Nat.mul_comm]
/-- what follows from equations by adding them -/
inductive SpanR (R : List (Nat × Bool)) : Nat → Bool → Prop
  | zero : SpanR R 0 false
  | add {a : Nat} {b : Bool} {c : Nat} {d : Bool} : (a, b) ∈ R → SpanR R c d → SpanR R (a ^^^ c) (b ^^ d)
theorem SpanR.sat {R : List (Nat × Bool)} {l : List Int} (hl : satR R l = true) {a : Nat} {b : Bool} (h : SpanR R a b) : par a l = b := by
  induction h with
  | zero => exact par_zero l
  | add hm _ ih =>
    rw [par_xor, ih]
    have := List.all_eq_true.1 hl _ hm
    rw [beq_iff_eq.1 this]
theorem SpanR.of {R : List (Nat × Bool)} {a : Nat} {b : Bool} (h : (a, b) ∈ R) : SpanR R a b := by
  have := SpanR.add h SpanR.zero
  simpa using this
theorem SpanR.xor {R : List (Nat × Bool)} {a : Nat} {b : Bool} {c : Nat} {d : Bool} (h : SpanR R a b) (g : SpanR R c d) : SpanR R (a ^^^ c) (b ^^ d) := by
  induction h with
  | zero => simpa using g
  | add hm _ ih =>
    have := SpanR.add hm ih
    rw [← Nat.xor_assoc, ← Bool.xor_assoc] at this
    exact this
theorem SpanR.sub {R R' : List (Nat × Bool)} (hs : ∀ a b, (a, b) ∈ R → SpanR R' a b) {a : Nat} {b : Bool} (h : SpanR R a b) : SpanR R' a b := by
  induction h with
  | zero => exact .zero
  | add hm _ ih => exact (hs _ _ hm).xor ih
theorem SpanR.left {R R' : List (Nat × Bool)} {a : Nat} {b : Bool} (h : SpanR R a b) : SpanR (R ++ R') a b := h.sub fun _ _ hm => .of (List.mem_append_left _ hm)

/-- an equation made less by others -/
def stepN (m r : Nat) : Nat := min m (m ^^^ r)
def redN (R : List Nat) (m : Nat) : Nat := R.foldl stepN m
def addN (R : List Nat) (m : Nat) : List Nat := if redN R m = 0 then R else R ++ [redN R m]
def basN (X : List Nat) : List Nat := X.foldl addN []
def stepR (m r : Nat × Bool) : Nat × Bool := if m.1 ^^^ r.1 < m.1 then (m.1 ^^^ r.1, m.2 ^^ r.2) else m
def redR (R : List (Nat × Bool)) (m : Nat × Bool) : Nat × Bool := R.foldl stepR m
def addR (R : List (Nat × Bool)) (m : Nat × Bool) : List (Nat × Bool) := if (redR R m).1 = 0 then R else R ++ [redR R m]
def basR (X : List (Nat × Bool)) : List (Nat × Bool) := X.foldl addR []
theorem step_fst (m r : Nat × Bool) : (stepR m r).1 = stepN m.1 r.1 := by
  unfold stepR stepN
  split
  · show m.1 ^^^ r.1 = _; omega
  · show m.1 = _; omega
theorem red_fst (R : List (Nat × Bool)) (m : Nat × Bool) : (redR R m).1 = redN (R.map Prod.fst) m.1 := by
  induction R generalizing m with
  | nil => rfl
  | cons r R ih =>
    show (redR R (stepR m r)).1 = _
    rw [ih, step_fst]
    rfl
theorem add_fst (R : List (Nat × Bool)) (m : Nat × Bool) : (addR R m).map Prod.fst = addN (R.map Prod.fst) m.1 := by
  unfold addR addN
  rw [← red_fst]
  split <;> simp
theorem bas_fst' (X : List (Nat × Bool)) : ∀ R, (X.foldl addR R).map Prod.fst = (X.map Prod.fst).foldl addN (R.map Prod.fst) := by
  induction X with
  | nil => intro R; rfl
  | cons x X ih => intro R; simp only [List.foldl_cons, List.map_cons]; rw [ih, add_fst]
theorem bas_fst (X : List (Nat × Bool)) : (basR X).map Prod.fst = basN (X.map Prod.fst) := bas_fst' X []
theorem bas_len (X : List (Nat × Bool)) : (basR X).length = (basN (X.map Prod.fst)).length := by rw [← bas_fst]; simp
theorem log2_top {r j : Nat} (h : r.log2 < j) : r.testBit j = false := by
  rcases Nat.eq_zero_or_pos r with h0 | h0
  · subst h0; simp
  · exact Nat.testBit_lt_two_pow (Nat.lt_of_lt_of_le Nat.lt_log2_self (Nat.pow_le_pow_right (by decide) h))
theorem lt_bits {x y : Nat} (i : Nat) (hx : x.testBit i = false) (hy : y.testBit i = true) (h : ∀ j, i < j → x.testBit j = y.testBit j) : x < y := by
  have e : x / 2 ^ i / 2 = y / 2 ^ i / 2 := by
    refine Nat.eq_of_testBit_eq fun j => ?_
    rw [Nat.testBit_div_two, Nat.testBit_div_two_pow, Nat.testBit_div_two, Nat.testBit_div_two_pow]
    exact h _ (by omega)
  rw [Nat.testBit_eq_decide_div_mod_eq] at hx hy
  simp only [decide_eq_false_iff_not, decide_eq_true_eq] at hx hy
  exact Nat.lt_of_div_lt_div (c := 2 ^ i) (by omega)
theorem step_less {m r : Nat} (h : r ≠ 0) : m ^^^ r < m ↔ m.testBit r.log2 = true := by
  have ht := Nat.testBit_log2 h
  constructor
  · intro hl
    cases hm : m.testBit r.log2 with
    | true => rfl
    | false =>
      have : m < m ^^^ r := lt_bits r.log2 hm (by simp [hm, ht]) fun j hj => by simp [log2_top hj]
      omega
  · intro hm
    exact lt_bits r.log2 (by simp [hm, ht]) hm fun j hj => by simp [log2_top hj]
theorem step_zero {m r : Nat × Bool} (h : r.1 ≠ 0) : (stepR m r).1.testBit r.1.log2 = false := by
  have ht := Nat.testBit_log2 h
  unfold stepR
  split
  · rename_i hl
    have := (step_less h).1 hl
    simp [this, ht]
  · rename_i hl
    cases hm : m.1.testBit r.1.log2 with
    | false => rfl
    | true => exact absurd ((step_less h).2 hm) hl
theorem step_keep {m r : Nat × Bool} {p : Nat} (hr : r.1.testBit p = false) (hm : m.1.testBit p = false) : (stepR m r).1.testBit p = false := by
  unfold stepR
  split
  · simp [hr, hm]
  · exact hm
theorem red_keep (R : List (Nat × Bool)) (m : Nat × Bool) (p : Nat) (hR : ∀ r ∈ R, r.1.testBit p = false) (hm : m.1.testBit p = false) : (redR R m).1.testBit p = false := by
  induction R generalizing m with
  | nil => exact hm
  | cons r R ih => exact ih _ (fun q hq => hR q (by simp [hq])) (step_keep (hR r (by simp)) hm)
/-- equations each of which has zeros where those ahead of it have their greatest bits -/
def Good (n : Nat) (R : List (Nat × Bool)) : Prop := (∀ r ∈ R, r.1 ≠ 0 ∧ r.1 < 2 ^ n) ∧ R.Pairwise fun r q => q.1.testBit r.1.log2 = false
theorem red_zero {n : Nat} : ∀ (R : List (Nat × Bool)) (m : Nat × Bool), Good n R → ∀ r ∈ R, (redR R m).1.testBit r.1.log2 = false := by
  intro R
  induction R with
  | nil => intro _ _ r hr; simp at hr
  | cons q R ih =>
    intro m ⟨h1, h2⟩ r hr
    obtain ⟨hp, hR⟩ := List.pairwise_cons.1 h2
    rcases List.mem_cons.1 hr with e | e
    · subst e
      exact red_keep R _ _ hp (step_zero (h1 r (by simp)).1)
    · exact ih (stepR m q) ⟨fun x hx => h1 x (by simp [hx]), hR⟩ r e
theorem red_lt {n : Nat} : ∀ (R : List (Nat × Bool)) (m : Nat × Bool), (∀ r ∈ R, r.1 < 2 ^ n) → m.1 < 2 ^ n → (redR R m).1 < 2 ^ n := by
  intro R
  induction R with
  | nil => intro m _ hm; exact hm
  | cons q R ih =>
    intro m h hm
    refine ih (stepR m q) (fun x hx => h x (by simp [hx])) ?_
    unfold stepR
    split
    · exact Nat.xor_lt_two_pow hm (h q (by simp))
    · exact hm
theorem red_span : ∀ (R : List (Nat × Bool)) (m : Nat × Bool), ∃ a b, SpanR R a b ∧ redR R m = (m.1 ^^^ a, m.2 ^^ b) := by
  intro R
  induction R with
  | nil => intro m; exact ⟨0, false, .zero, by simp [redR]⟩
  | cons q R ih =>
    intro m
    obtain ⟨a, b, h, e⟩ := ih (stepR m q)
    have h' : SpanR (q :: R) a b := h.sub fun _ _ hm => .of (List.mem_cons_of_mem _ hm)
    have e' : redR (q :: R) m = ((stepR m q).1 ^^^ a, (stepR m q).2 ^^ b) := e
    by_cases hl : m.1 ^^^ q.1 < m.1
    · refine ⟨q.1 ^^^ a, q.2 ^^ b, .add (by simp) h', ?_⟩
      rw [e']
      simp only [stepR, if_pos hl, Nat.xor_assoc, Bool.xor_assoc]
    · refine ⟨a, b, h', ?_⟩
      rw [e']
      simp only [stepR, if_neg hl]
theorem good_tri {n : Nat} {R : List (Nat × Bool)} (h : Good n R) : CN (satR R) n * 2 ^ R.length = 2 ^ n := by
  have h1 : Tri n (R.map fun r => (r, r.1.log2)) := by
    refine ⟨fun t ht => ?_, ?_⟩
    · obtain ⟨r, hr, rfl⟩ := List.mem_map.1 ht
      obtain ⟨h0, hl⟩ := h.1 r hr
      exact ⟨(Nat.log2_lt h0).2 hl, Nat.testBit_log2 h0⟩
    · rw [List.pairwise_map]
      exact h.2
  have h2 := tri_count n _ h1
  rw [List.map_map, List.length_map] at h2
  have h3 : R.map (Prod.fst ∘ fun r : Nat × Bool => (r, r.1.log2)) = R := by simp [Function.comp_def]
  rw [h3] at h2
  exact h2
/-- what holds of the equations that are kept -/
def BasI (n : Nat) (P R : List (Nat × Bool)) : Prop := Good n R ∧ (∀ a b, (a, b) ∈ R → SpanR P a b) ∧ ((∀ a b, (a, b) ∈ P → SpanR R a b) ∨ SpanR P 0 true)
theorem BasI.step {n : Nat} {P R : List (Nat × Bool)} (h : BasI n P R) (x : Nat × Bool) (hx : x.1 < 2 ^ n) : BasI n (P ++ [x]) (addR R x) := by
  obtain ⟨hg, h2, h3⟩ := h
  obtain ⟨a, b, hs, e⟩ := red_span R x
  have hz := red_zero R x hg
  have hlt := red_lt R x (fun r hr => (hg.1 r hr).2) hx
  have hsP : SpanR (P ++ [x]) a b := (hs.sub h2).left
  have hxs : SpanR (P ++ [x]) x.1 x.2 := .of (by simp)
  have hy := hxs.xor hsP
  unfold addR
  by_cases h0 : (redR R x).1 = 0
  · rw [if_pos h0]
    refine ⟨hg, fun c d hm => (h2 c d hm).left, ?_⟩
    rcases h3 with h3 | h3
    · rw [e] at h0
      have ha : x.1 = a := by
        have : x.1 ^^^ a ^^^ a = 0 ^^^ a := by rw [show x.1 ^^^ a = 0 from h0]
        simpa [Nat.xor_assoc] using this
      cases hb : (x.2 ^^ b) with
      | true => right; rw [show x.1 ^^^ a = 0 from h0, hb] at hy; exact hy
      | false =>
        left
        intro c d hm
        rcases List.mem_append.1 hm with hm | hm
        · exact h3 c d hm
        · have hcd : (c, d) = x := by simpa using hm
          have hc : c = x.1 := by rw [← hcd]
          have hd : d = x.2 := by rw [← hcd]
          subst hc hd
          have : x.2 = b := by cases e1 : x.2 <;> cases b <;> simp_all
          rw [ha, this]
          exact hs
    · exact .inr h3.left
  · rw [if_neg h0]
    refine ⟨⟨fun r hr => ?_, ?_⟩, fun c d hm => ?_, ?_⟩
    · rcases List.mem_append.1 hr with hr | hr
      · exact hg.1 r hr
      · have : r = redR R x := by simpa using hr
        subst this
        exact ⟨h0, hlt⟩
    · rw [List.pairwise_append]
      refine ⟨hg.2, by simp, fun r hr q hq => ?_⟩
      have : q = redR R x := by simpa using hq
      subst this
      exact hz r hr
    · rcases List.mem_append.1 hm with hm | hm
      · exact (h2 c d hm).left
      · have : (c, d) = redR R x := by simpa using hm
        rw [e] at this
        injection this with e1 e2
        subst e1 e2
        exact hy
    · rcases h3 with h3 | h3
      · left
        intro c d hm
        rcases List.mem_append.1 hm with hm | hm
        · exact (h3 c d hm).left
        · have hcd : (c, d) = x := by simpa using hm
          have hc : c = x.1 := by rw [← hcd]
          have hd : d = x.2 := by rw [← hcd]
          subst hc hd
          have hyR : SpanR (R ++ [redR R x]) (x.1 ^^^ a) (x.2 ^^ b) := .of (by rw [e]; simp)
          have := hyR.xor (hs.left (R' := [redR R x]))
          simpa [Nat.xor_assoc] using this
      · exact .inr h3.left
theorem BasI.fold {n : Nat} : ∀ (X P R : List (Nat × Bool)), BasI n P R → (∀ x ∈ X, x.1 < 2 ^ n) → BasI n (P ++ X) (X.foldl addR R) := by
  intro X
  induction X with
  | nil => intro P R h _; simpa using h
  | cons x X ih =>
    intro P R h hX
    have h1 := ih (P ++ [x]) (addR R x) (h.step x (hX x (by simp))) fun y hy => hX y (by simp [hy])
    rw [List.append_assoc] at h1
    exact h1
theorem bas_all {n : Nat} {X : List (Nat × Bool)} (h : ∀ x ∈ X, x.1 < 2 ^ n) : BasI n X (basR X) := by
  have h0 : BasI n [] [] := ⟨⟨by simp, .nil⟩, by simp, .inl (by simp)⟩
  exact BasI.fold X [] [] h0 h
theorem sat_iff {R : List (Nat × Bool)} {l : List Int} : satR R l = true ↔ ∀ a b, (a, b) ∈ R → par a l = b := by
  unfold satR
  rw [List.all_eq_true]
  exact ⟨fun h a b hm => beq_iff_eq.1 (h (a, b) hm), fun h r hr => beq_iff_eq.2 (h r.1 r.2 hr)⟩
/-- either a proof, or as many solutions as the rank tells -/
theorem bas_alt {n : Nat} {X : List (Nat × Bool)} (h : ∀ x ∈ X, x.1 < 2 ^ n) : (SpanR X 0 true ∧ ∀ l, satR X l = false) ∨ CN (satR X) n * 2 ^ (basN (X.map Prod.fst)).length = 2 ^ n := by
  obtain ⟨hg, h2, h3⟩ := bas_all h
  by_cases hs : SpanR X 0 true
  · refine .inl ⟨hs, fun l => ?_⟩
    cases e : satR X l with
    | false => rfl
    | true => have := hs.sat e; rw [par_zero] at this; simp at this
  · right
    rcases h3 with h3 | h3
    · have hc := good_tri hg
      rw [bas_len] at hc
      have : satR X = satR (basR X) := by
        funext l
        rw [Bool.eq_iff_iff]
        constructor
        · intro e; exact sat_iff.2 fun a b hm => (h2 a b hm).sat e
        · intro e; exact sat_iff.2 fun a b hm => (h3 a b hm).sat e
      rw [this]
      exact hc
    · exact absurd h3 hs
theorem span_even {X : List (Nat × Bool)} (h : ∀ x ∈ X, x.2 = false) {a : Nat} {b : Bool} (hs : SpanR X a b) : b = false := by
  induction hs with
  | zero => rfl
  | add hm _ ih => have := h _ hm; simp at this; simp [this, ih]
theorem map_zero_fst (X : List Nat) : (X.map fun m => (m, false)).map Prod.fst = X := by simp [Function.comp_def]
/-- .. with all sums even: the count tells the rank -/
theorem bas_even {n : Nat} {X : List Nat} (h : ∀ x ∈ X, x < 2 ^ n) : CN (satR (X.map fun m => (m, false))) n * 2 ^ (basN X).length = 2 ^ n := by
  have h1 : ∀ x ∈ X.map (fun m => (m, false)), x.1 < 2 ^ n := fun x hx => by
    obtain ⟨m, hm, rfl⟩ := List.mem_map.1 hx
    exact h m hm
  rcases bas_alt h1 with h2 | h2
  · have := span_even (fun x hx => by obtain ⟨m, hm, rfl⟩ := List.mem_map.1 hx; rfl) h2.1
    simp at this
  · rw [map_zero_fst] at h2
    exact h2
theorem rank_unique {C r q n : Nat} (h : C * 2 ^ r = 2 ^ n) (g : C * 2 ^ q = 2 ^ n) : r = q := by
  have hC : 0 < C := by
    rcases Nat.eq_zero_or_pos C with e | e
    · subst e; rw [Nat.zero_mul] at h; have := Nat.pow_pos (n := n) (show 0 < 2 by decide); omega
    · exact e
  have := Nat.eq_of_mul_eq_mul_left hC (h.trans g.symm)
  exact (Nat.pow_right_inj (by decide)).1 this
end Go.Proofs.Ytiidphlfpiaoeaa
