/- The best talk on the program's side: plan; conditions: none. -/
import Derived.Test.YtpieaeokbblflaaBuildI
import Derived.Test.YtpieaeokbblflaaFstF
namespace Go.Proofs.Ytpieaeokbblflaa
open Go.RowKit

theorem stepsF_plain {t : List (List Int)} {f R C pos : Nat} (h : 0 < f) (hp : plB t R C = true) : stepsF t f R C pos = ([], -1 - plN t R C) := by
  rcases f with _ | f
  · omega
  · unfold stepsF; rw [if_pos hp]
theorem stepsF_val {t : List (List Int)} {f R C pos : Nat} (h : 0 < f) (hp : plB t R C = false) : (stepsF t f R C pos).2 = (pos : Int) := by
  rcases f with _ | f
  · omega
  · unfold stepsF
    rw [if_neg (by rw [hp]; simp)]
    split <;> rfl


set_option maxRecDepth 100000 in
theorem ixr0 (a b c d : Int) (w : World) : Sem.run Try.prog (Instr.index 130 (.agg #[.int .i64 a, .int .i64 b, .int .i64 c, .int .i64 d]) (.int .i64 0)) w = .ok (.agg #[.int .i64 a, .int .i64 b]) w := by rfl
set_option maxRecDepth 100000 in
theorem ixr1 (a b c d : Int) (w : World) : Sem.run Try.prog (Instr.index 130 (.agg #[.int .i64 a, .int .i64 b, .int .i64 c, .int .i64 d]) (.int .i64 1)) w = .ok (.agg #[.int .i64 c, .int .i64 d]) w := by rfl
theorem flat_set0 (xs ys : List (Int × Int)) (a b y : Int) (n : Nat) (h : xs.length = n) : (flat (xs ++ (a, b) :: ys)).set (2 * n) y = flat (xs ++ (y, b) :: ys) := by
  rw [flat_app, flat_app, List.set_append_right _ _ (by rw [flat_len]; omega), flat_len, show 2 * n - 2 * xs.length = 0 by omega]
  rfl
theorem flat_set1 (xs ys : List (Int × Int)) (a b y : Int) (n : Nat) (h : xs.length = n) : (flat (xs ++ (a, b) :: ys)).set (2 * n + 1) y = flat (xs ++ (a, y) :: ys) := by
  rw [flat_app, flat_app, List.set_append_right _ _ (by rw [flat_len]; omega), flat_len, show 2 * n + 1 - 2 * xs.length = 1 by omega]
  rfl
/-- one number of a pair is written -/
theorem OwnPr.set0 {w : World} {B g m cap n : Nat} {xs ys : List (Int × Int)} {a b : Int} (h : OwnPr w B (.slice (some ⟨g, 0, none⟩) m cap) (xs ++ (a, b) :: ys)) (hn : xs.length = n) (y : Int) :
    OwnPr (w.setCell ⟨g, n * 2, none⟩ (.int .i64 y)) B (.slice (some ⟨g, 0, none⟩) m cap) (xs ++ (y, b) :: ys) := by
  have h1 := OwnD.set h (2 * n) y
  rw [flat_set0 xs ys a b y n hn, Nat.mul_comm 2 n] at h1
  unfold OwnPr
  simp only [List.length_append, List.length_cons] at h1 ⊢
  exact h1
theorem OwnPr.set1 {w : World} {B g m cap n : Nat} {xs ys : List (Int × Int)} {a b : Int} (h : OwnPr w B (.slice (some ⟨g, 0, none⟩) m cap) (xs ++ (a, b) :: ys)) (hn : xs.length = n) (y : Int) :
    OwnPr (w.setCell ⟨g, n * 2 + 1, none⟩ (.int .i64 y)) B (.slice (some ⟨g, 0, none⟩) m cap) (xs ++ (a, y) :: ys) := by
  have h1 := OwnD.set h (2 * n + 1) y
  rw [flat_set1 xs ys a b y n hn, Nat.mul_comm 2 n] at h1
  unfold OwnPr
  simp only [List.length_append, List.length_cons] at h1 ⊢
  exact h1
/-- the steps with their first one's ends -/
def withE (r : TalkD) (s : Int) (bits : List Int) (a b : Int) (l : List Step) : TalkD := addS r ((s, bits, (a, b)) :: l)
theorem withE_p (r : TalkD) (s : Int) (bits : List Int) (a b : Int) (l : List Step) : (withE r s bits a b l).p.length = r.p.length + 1 + l.length := by simp [withE, addS, stP]; omega
theorem withE_s (r : TalkD) (s : Int) (bits : List Int) (a b : Int) (l : List Step) : (withE r s bits a b l).s.length = r.s.length + 1 + l.length := by simp [withE, addS, stS]; omega
theorem withE_x (r : TalkD) (s : Int) (bits : List Int) (a b : Int) (l : List Step) : (withE r s bits a b l).x.length = r.x.length + 1 + l.length := by simp [withE, addS, stX]; omega
theorem withE_add (r : TalkD) (s : Int) (bits : List Int) (a b : Int) (l k : List Step) : addS (withE r s bits a b l) k = withE r s bits a b (l ++ k) := by simp [withE, addS, stP, stS, stX]
/-- the state in the loop over both parts -/
def PlanS (t : List (List Int)) (v : Value) (B gb mb pb : Nat) (F : Nat → Prop) (w : World) (r : TalkD) (s : Int) (bits : List Int) (a b : Int) (l : List Step) (wr : World) : Prop :=
  TalkM t v B gb mb wr ∧ KeptOff (fun k => F k ∨ k = pb ∨ k = mb) w wr ∧ ∃ e1 n1 e2 n2 e3 n3, wr.heap[pb]? = some (.cells #[.slice e1 (r.p.length + 1 + l.length) n1, .slice e2 (r.p.length + 1 + l.length) n2, .slice e3 (r.p.length + 1 + l.length) n3] 38 (0, 0)) ∧
    OwnT3 wr B (fun k => F k ∨ (w.heap.size + 1 ≤ k ∧ k < wr.heap.size ∧ k ≠ gb ∧ k ≠ mb ∧ k ≠ pb)) (.slice e1 (r.p.length + 1 + l.length) n1) (.slice e2 (r.p.length + 1 + l.length) n2) (.slice e3 (r.p.length + 1 + l.length) n3) (withE r s bits a b l)

theorem KeptOff.cut {w w' : World} {F G : Nat → Prop} (h : KeptOff F w w') (hF : ∀ k, k < w.heap.size → F k → G k) : KeptOff G w w' := ⟨h.os, h.tape, h.output, h.size, fun k hk hg => h.block k hk fun f => hg (hF k hk f)⟩
theorem PlanS.below {t : List (List Int)} {v : Value} {B gb mb pb : Nat} {F : Nat → Prop} {w : World} {r : TalkD} {s : Int} {bits : List Int} {a b : Int} {l : List Step} {wr w' : World} (h : PlanS t v B gb mb pb F w r s bits a b l wr) (hb : Below wr.heap.size wr w') : PlanS t v B gb mb pb F w r s bits a b l w' := by
  obtain ⟨h1, h2, e1, n1, e2, n2, e3, n3, h3, h4⟩ := h
  exact ⟨h1.below hb, kept_then h2 hb, e1, n1, e2, n2, e3, n3, blk_later hb h3, (h4.below hb).mono fun k f => by have := hb.size; rcases f with f | f; exact .inl f; exact .inr (by omega)⟩
theorem PlanS.lt {t : List (List Int)} {v : Value} {B gb mb pb : Nat} {F : Nat → Prop} {w : World} {r : TalkD} {s : Int} {bits : List Int} {a b : Int} {l : List Step} {wr : World} (h : PlanS t v B gb mb pb F w r s bits a b l wr) : gb < wr.heap.size ∧ mb < wr.heap.size ∧ pb < wr.heap.size ∧ w.heap.size ≤ wr.heap.size := by
  obtain ⟨h1, h2, e1, n1, e2, n2, e3, n3, h3, h4⟩ := h
  exact ⟨h1.lt.1, h1.lt.2.1, (Array.getElem?_eq_some_iff.1 h3).1, h2.size⟩
/-- behind a call of plan -/
theorem PlanS.more {t : List (List Int)} {v : Value} {B gb mb pb : Nat} {F : Nat → Prop} {w : World} {r : TalkD} {s : Int} {bits : List Int} {a b : Int} {l : List Step} {wr w' : World} (h : PlanS t v B gb mb pb F w r s bits a b l wr) {D : List Step} {u1 u2 u3 : Value}
    (c1 : TalkM t v B gb mb w') (c2 : KeptOff (fun k => (F k ∨ (w.heap.size + 1 ≤ k ∧ k < wr.heap.size ∧ k ≠ gb ∧ k ≠ mb ∧ k ≠ pb)) ∨ k = pb ∨ k = mb) wr w') (c3 : w'.heap[pb]? = some (.cells #[u1, u2, u3] 38 (0, 0)))
    (c4 : OwnT3 w' B (fun k => (F k ∨ (w.heap.size + 1 ≤ k ∧ k < wr.heap.size ∧ k ≠ gb ∧ k ≠ mb ∧ k ≠ pb)) ∨ (wr.heap.size ≤ k ∧ k < w'.heap.size)) u1 u2 u3 (addS (withE r s bits a b l) D)) (hl2 : r.s.length = r.p.length) (hl3 : r.x.length = r.p.length) (hw : w.heap.size + 1 ≤ wr.heap.size) : PlanS t v B gb mb pb F w r s bits a b (l ++ D) w' := by
  have hlt := h.lt
  obtain ⟨h1, h2, -⟩ := h
  obtain ⟨f1, n1, f2, n2, f3, n3, rfl, rfl, rfl⟩ := c4.form
  have e1 : (addS (withE r s bits a b l) D).p.length = r.p.length + 1 + (l ++ D).length := by rw [withE_add, withE_p]
  have e2 : (addS (withE r s bits a b l) D).s.length = r.p.length + 1 + (l ++ D).length := by rw [withE_add, withE_s, hl2]
  have e3 : (addS (withE r s bits a b l) D).x.length = r.p.length + 1 + (l ++ D).length := by rw [withE_add, withE_x, hl3]
  rw [e1, e2, e3] at c3 c4
  rw [withE_add] at c4
  have hz := c2.size
  refine ⟨c1, ((h2.mono (G := fun k => (F k ∨ k = pb ∨ k = mb) ∨ w.heap.size ≤ k) fun k f => .inl f).trans (c2.mono fun k f => ?_)).cut fun k hk f => ?_, _, _, _, _, _, _, c3, c4.mono fun k f => ?_⟩
  · rcases f with (f | f) | f | f
    · exact .inl (.inl f)
    · exact .inr (by omega)
    · exact .inl (.inr (.inl f))
    · exact .inl (.inr (.inr f))
  · rcases f with f | f
    · exact f
    · omega
  · rcases f with (f | f) | f
    · exact .inl f
    · exact .inr (by omega)
    · exact .inr (by omega)
/-- where the first step's ends lie -/
theorem PlanS.cells {t : List (List Int)} {v : Value} {B gb mb pb : Nat} {F : Nat → Prop} {w : World} {r : TalkD} {s : Int} {bits : List Int} {a b : Int} {l : List Step} {wr : World} (h : PlanS t v B gb mb pb F w r s bits a b l wr) (hl3 : r.x.length = r.p.length) :
    ∃ e1 n1 e2 n2 g n3, wr.heap[pb]? = some (.cells #[.slice e1 (r.p.length + 1 + l.length) n1, .slice e2 (r.p.length + 1 + l.length) n2, .slice (some ⟨g, 0, none⟩) (r.p.length + 1 + l.length) n3] 38 (0, 0)) ∧ g < wr.heap.size ∧
      (∃ x, wr.cell? ⟨g, r.p.length * 2, none⟩ = some (.int .i64 x)) ∧ wr.frozen? ⟨g, r.p.length * 2, none⟩ = false ∧ (∃ x, wr.cell? ⟨g, r.p.length * 2 + 1, none⟩ = some (.int .i64 x)) ∧ wr.frozen? ⟨g, r.p.length * 2 + 1, none⟩ = false ∧
      (∀ y, (∀ k, F k → B ≤ k ∧ k < w.heap.size ∧ k ≠ gb ∧ k ≠ mb ∧ k ≠ pb) → B ≤ w.heap.size → PlanS t v B gb mb pb F w r s bits y b l (wr.setCell ⟨g, r.p.length * 2, none⟩ (.int .i64 y))) ∧
      (∀ y, (∀ k, F k → B ≤ k ∧ k < w.heap.size ∧ k ≠ gb ∧ k ≠ mb ∧ k ≠ pb) → B ≤ w.heap.size → PlanS t v B gb mb pb F w r s bits a y l (wr.setCell ⟨g, r.p.length * 2 + 1, none⟩ (.int .i64 y))) := by
  obtain ⟨h1, h2, e1, n1, e2, n2, e3, n3, h3, h4⟩ := h
  obtain ⟨F1, F2, F3, o1, o2, o3, i1, i2, i3, d12, d13, d23⟩ := h4
  have ex : (withE r s bits a b l).x = r.x ++ (a, b) :: stX l := by simp [withE, addS, stX]
  have ef : (flat (withE r s bits a b l).x).length = 2 * (r.p.length + 1 + l.length) := by rw [flat_len, withE_x, hl3]
  obtain ⟨g, rfl, hg⟩ : ∃ g, e3 = some ⟨g, 0, none⟩ ∧ g < wr.heap.size := by
    rcases OwnD.shape o3.1 with ⟨-, h0, -⟩ | ⟨g, cap, e, -, -, hl⟩
    · rw [withE_x] at h0; omega
    · simp only [Value.slice.injEq] at e
      exact ⟨g, e.1, hl⟩
  have q0 : ∃ x, wr.cell? ⟨g, r.p.length * 2, none⟩ = some (.int .i64 x) ∧ wr.frozen? ⟨g, r.p.length * 2, none⟩ = false := by
    rw [Nat.mul_comm]; exact ⟨_, OwnD.cell o3.1 (2 * r.p.length) (by rw [ef]; omega)⟩
  have q1 : ∃ x, wr.cell? ⟨g, r.p.length * 2 + 1, none⟩ = some (.int .i64 x) ∧ wr.frozen? ⟨g, r.p.length * 2 + 1, none⟩ = false := by
    rw [Nat.mul_comm]; exact ⟨_, OwnD.cell o3.1 (2 * r.p.length + 1) (by rw [ef]; omega)⟩
  obtain ⟨z0, q0, q0'⟩ := q0
  obtain ⟨z1, q1, q1'⟩ := q1
  have hgG := o3.2 g rfl
  have hgn := i3 g hgG
  have o3' := o3.1
  rw [ex] at o3'
  have key : ∀ (j : Nat) (y x1 x2 : Int), (∀ k, F k → B ≤ k ∧ k < w.heap.size ∧ k ≠ gb ∧ k ≠ mb ∧ k ≠ pb) → B ≤ w.heap.size → OwnPr (wr.setCell ⟨g, j, none⟩ (.int .i64 y)) B (.slice (some ⟨g, 0, none⟩) (r.p.length + 1 + l.length) n3) (withE r s bits x1 x2 l).x →
      PlanS t v B gb mb pb F w r s bits x1 x2 l (wr.setCell ⟨g, j, none⟩ (.int .i64 y)) := by
    intro j y x1 x2 hF hB ho
    have hk := keptOff_set wr g j (.int .i64 y)
    have hbg : B ≤ g ∧ g ≠ gb ∧ g ≠ mb ∧ g ≠ pb := by
      rcases hgn with f | f
      · have := hF g f; omega
      · omega
    refine ⟨h1.off hk fun k e => by subst e; exact ⟨hbg.1, hbg.2.1, hbg.2.2.1⟩, ((h2.mono (G := fun k => (F k ∨ k = pb ∨ k = mb) ∨ w.heap.size ≤ k) fun k f => .inl f).trans (hk.mono fun k e => ?_)).cut fun k hk f => ?_, _, _, _, _, _, _, (hk.block pb (Array.getElem?_eq_some_iff.1 h3).1 (fun e => hbg.2.2.2 e.symm)).trans h3,
      F1, F2, F3, o1.off hk fun k f e => by subst e; exact d13 _ f hgG, o2.off hk fun k f e => by subst e; exact d23 _ f hgG, ⟨ho, o3.2⟩, fun k f => by simpa using i1 k f, fun k f => by simpa using i2 k f, fun k f => by simpa using i3 k f, d12, d13, d23⟩
    · subst e
      rcases hgn with f | f
      · exact .inl (.inl f)
      · exact .inr (by omega)
    · rcases f with f | f
      · exact f
      · omega
  refine ⟨e1, n1, e2, n2, g, n3, h3, hg, ⟨_, q0⟩, q0', ⟨_, q1⟩, q1', fun y hF hB => key _ y _ _ hF hB ?_, fun y hF hB => key _ y _ _ hF hB ?_⟩
  · have := OwnPr.set0 o3' hl3 y
    rw [show (withE r s bits y b l).x = r.x ++ (y, b) :: stX l by simp [withE, addS, stX]]
    exact this
  · have := OwnPr.set1 o3' hl3 y
    rw [show (withE r s bits a y l).x = r.x ++ (a, y) :: stX l by simp [withE, addS, stX]]
    exact this

/-- what a call of plan does -/
def PlanK (t : List (List Int)) (v : Value) (B gb mb s : Nat) : Prop :=
  ∀ R C : Nat, R + C ≤ s → 0 < R → 0 < C → R < 16 → C < 16 → R < 2 ^ t.length → C < 2 ^ wid t → plB t R C = false → ∀ (w : World) (pb : Nat) (v1 v2 v3 : Value) (r : TalkD) (F : Nat → Prop) (pos : Nat), TalkM t v B gb mb w →
    w.heap[pb]? = some (.cells #[v1, v2, v3] 38 (0, 0)) → B ≤ pb → OwnT3 w B F v1 v2 v3 r → (∀ k, F k → B ≤ k ∧ k < w.heap.size ∧ k ≠ gb ∧ k ≠ mb ∧ k ≠ pb) →
    r.p.length = pos → r.s.length = pos → r.x.length = pos → pos + 2 ^ s ≤ 34359738368 →
    Calls Try.prog 85 #[.pointer (some ⟨gb, 0, none⟩), .pointer (some ⟨pb, 0, none⟩), .agg #[.int .i64 (R : Int), .int .i64 (C : Int)]] w fun e w' => e = .returned (.int .i64 (pos : Int)) ∧ TalkM t v B gb mb w' ∧ KeptOff (fun k => F k ∨ k = pb ∨ k = mb) w w' ∧
      ∃ u1 u2 u3, w'.heap[pb]? = some (.cells #[u1, u2, u3] 38 (0, 0)) ∧ OwnT3 w' B (fun k => F k ∨ (w.heap.size ≤ k ∧ k < w'.heap.size)) u1 u2 u3 (addS r (stepsF t s R C pos).1)



set_option maxRecDepth 100000 in
set_option maxHeartbeats 8000000 in
theorem c_plan_step {t : List (List Int)} {v : Value} {B gb mb s : Nat} (ht : taskB t = true) (hk : PlanK t v B gb mb s) : PlanK t v B gb mb (s + 1) := by
  intro R C hs hR0 hC0 hR1 hC1 hR2 hC2 hp w pb v1 v2 v3 r F pos hT hpb hBp how hF hl1 hl2 hl3 hpos
  obtain ⟨hn, hm, -, -⟩ := taskB_yes ht
  obtain ⟨a1, k1, a2, k2, a3, k3, rfl, rfl, rfl⟩ := how.form
  rw [hl1, hl2, hl3] at how hpb
  obtain ⟨-, p, hpp⟩ := first_same hn.2 hm.2 hR0 hC0 hR1 hC1 hR2 hC2 hp
  have hlt := hT.lt
  have hpl := (Array.getElem?_eq_some_iff.1 hpb).1
  have hpg : pb ≠ gb := by
    rintro rfl
    rw [hT.1] at hpb
    simp at hpb
  have hpm : pb ≠ mb := by
    rintro rfl
    obtain ⟨-, -, -, -, D, ⟨es, clock, hm, -⟩, -⟩ := hT
    rw [hpb] at hm
    cases hm
  have hA := (Below.refl w.heap.size w).alloc (Nat.le_refl _) (.cells #[.int .i64 (R : Int), .int .i64 (C : Int)] 81)
  have hbr : (w.alloc (.cells #[.int .i64 (R : Int), .int .i64 (C : Int)] 81)).heap[w.heap.size]? = some (.cells #[.int .i64 (R : Int), .int .i64 (C : Int)] 81 (0, 0)) := heap_alloc_at rfl
  have hpA := blk_later hA hpb
  obtain ⟨⟨x0, x1, x2⟩, -⟩ := blk3 hpA
  have hTA := hT.below hA
  go_enter Try.func85, Try.ntmps85
  go_wp2_with fail
  refine (c_first ht R C hR0 hC0 hR1 hC1 hR2 hC2 _ hTA).mono ?_
  rintro e w1 ⟨rfl, hT1, hk1⟩
  have hzA : (w.alloc (.cells #[.int .i64 (R : Int), .int .i64 (C : Int)] 81)).heap.size = w.heap.size + 1 := by simp
  have hz1 := hk1.size
  rw [hzA] at hz1
  have hp1 := (hk1.block pb (by omega) (by omega)).trans hpA
  have hbr1 := (hk1.block w.heap.size (by omega) (by omega)).trans hbr
  have how1 := (how.below hA).off hk1 (fun k f e => (hF k f).2.2.2.1 e)
  obtain ⟨F1, F2, F3, o1, o2, o3, i1, i2, i3, d12, d13, d23⟩ := how1
  have hF1 : ∀ k, F1 k → F k := i1
  have hFn : ∀ k, F1 k ∨ F2 k ∨ F3 k → k < w1.heap.size ∧ k ≠ pb := fun k f => by
    rcases f with f | f | f
    · have := hF k (i1 k f); omega
    · have := hF k (i2 k f); omega
    · have := hF k (i3 k f); omega
  have hFT : ∀ k, (F1 k ∨ F2 k ∨ F3 k ∨ k = pb) → B ≤ k ∧ k ≠ gb ∧ k ≠ mb := fun k f => by
    rcases f with f | f | f | f
    · have := hF k (i1 k f); omega
    · have := hF k (i2 k f); omega
    · have := hF k (i3 k f); omega
    · omega
  have hv1 : ∀ g, (Value.slice a1 pos k1).ownBlock = some g → F1 g := o1.2.2
  have hv2 : ∀ g, (Value.slice a2 pos k2).ownBlock = some g → F2 g := o2.own
  have hv3 : ∀ g, (Value.slice a3 pos k3).ownBlock = some g → F3 g := o3.2
  have hpn : pb < w1.heap.size := by omega
  have hps : 0 < 2 ^ (s + 1) := Nat.pow_pos (by decide)
  have hBw := hlt.2.2.2.1
  have hlG : ∀ (ww : World) (k : Nat) {G : Prop}, w1.heap.size ≤ ww.heap.size → (G ∨ (w1.heap.size ≤ k ∧ k < ww.heap.size)) → (G → F1 k ∨ F2 k ∨ F3 k) → k < ww.heap.size := fun ww k G hz h f => by
    rcases h with h | h
    · have := hFn k (f h); omega
    · omega
  rcases hpp with ⟨hf, hq⟩ | ⟨hf, hq⟩
  · skip
    rw [hf]
    obtain ⟨q0, q1, q2⟩ := spl_mem hq
    have hst := stepsF_0 (f := s) (pos := pos) hp hf
    replace hst := Lib.hid hst
    replace hf := Lib.hid hf
    replace hq := Lib.hid hq
    go_wp2_with fail
    have hstart : ∀ u, JPL B w1.heap.size pb F1 F2 F3 (.slice a1 pos k1) (.slice a2 pos k2) (.slice a3 pos k3) r 0 (bitsL (t.length) p) w1 [some (.pointer (some ⟨pb, 0, none⟩)), some (.pointer (some ⟨pb, 0, none⟩)), some (.pointer (some ⟨pb, 0, none⟩)), some (.pointer (some ⟨pb, 0, none⟩)), some (.pointer (some ⟨pb, 0, none⟩)), some (.pointer (some ⟨pb, 0, none⟩)), some (.slice a1 pos k1), some (.int .i64 0), none, none, some (.pointer (some ⟨pb, 0, none⟩)), some (.pointer (some ⟨pb, 0, none⟩)), some (.pointer (some ⟨pb, 1, none⟩)), some (.slice a2 pos k2), some (.pointer (some ⟨gb, 0, none⟩)), some (.int .i64 0), some (.int .i64 (p : Int)), none, none, none, some (.pointer (some ⟨pb, 0, none⟩)), some (.pointer (some ⟨pb, 0, none⟩)), some (.pointer (some ⟨pb, 2, none⟩)), some (.slice a3 pos k3), some (.agg #[.int .i64 0, .int .i64 0]), none, none, some (.pointer (some ⟨pb, 0, none⟩)), some (.pointer (some ⟨pb, 0, none⟩)), none, some (.pointer (some ⟨pb, 0, none⟩)), some (.pointer (some ⟨pb, 1, none⟩)), none, some (.pointer (some ⟨pb, 0, none⟩)), some (.pointer (some ⟨pb, 2, none⟩)), none] (fun _ => false) u w1.drew F1 F2 F3 := fun u =>
      ⟨fun j x h => (by cases h), ((kept0 (Below.refl w1.heap.size w1).drew).mono fun _ f => f.elim), hp1, o1.below (Below.refl _ _).drew, o2.below (Below.refl _ _).drew, o3.below (Below.refl _ _).drew, fun k f => .inl f, fun k f => .inl f, fun k f => .inl f, d12, d13, d23, fun h => (by cases h), fun h => (by cases h), fun h => (by cases h), fun h => (by cases h), fun h => (by cases h)⟩
    refine wp_region_J (by kernel_rfl) [none, none, none, none, none, none, none, none, none, none, none, none, none, none, none, none, none, none, none, none, none, none, none, none, none, none, some 0, some 1, some 2, some 3, some 4, some 5, some 6, some 7, some 8, some 9, some 10, some 11, some 12, some 13, some 14, some 15, some 16, some 17, some 18, some 19, some 20, some 21, some 22, some 23, some 24, some 25, some 26, some 27, some 28, some 30, some 31, some 33, some 34] (by kernel_rfl) (by kernel_rfl)
      (fun L u ww => ∃ G1 G2 G3, JPL B w1.heap.size pb F1 F2 F3 (.slice a1 pos k1) (.slice a2 pos k2) (.slice a3 pos k3) r 0 (bitsL (t.length) p) w1 [some (.pointer (some ⟨pb, 0, none⟩)), some (.pointer (some ⟨pb, 0, none⟩)), some (.pointer (some ⟨pb, 0, none⟩)), some (.pointer (some ⟨pb, 0, none⟩)), some (.pointer (some ⟨pb, 0, none⟩)), some (.pointer (some ⟨pb, 0, none⟩)), some (.slice a1 pos k1), some (.int .i64 0), none, none, some (.pointer (some ⟨pb, 0, none⟩)), some (.pointer (some ⟨pb, 0, none⟩)), some (.pointer (some ⟨pb, 1, none⟩)), some (.slice a2 pos k2), some (.pointer (some ⟨gb, 0, none⟩)), some (.int .i64 0), some (.int .i64 (p : Int)), none, none, none, some (.pointer (some ⟨pb, 0, none⟩)), some (.pointer (some ⟨pb, 0, none⟩)), some (.pointer (some ⟨pb, 2, none⟩)), some (.slice a3 pos k3), some (.agg #[.int .i64 0, .int .i64 0]), none, none, some (.pointer (some ⟨pb, 0, none⟩)), some (.pointer (some ⟨pb, 0, none⟩)), none, some (.pointer (some ⟨pb, 0, none⟩)), some (.pointer (some ⟨pb, 1, none⟩)), none, some (.pointer (some ⟨pb, 0, none⟩)), some (.pointer (some ⟨pb, 2, none⟩)), none] L u ww G1 G2 G3) ⟨F1, F2, F3, hstart _⟩ ?_ ?_
    · intro i o ho L u ww hJ hi hd hC
      obtain ⟨G1, G2, G3, hJ⟩ := hJ
      rcases i with _ | _ | _ | _ | _ | _ | _ | _ | _ | _ | _ | _ | _ | _ | _ | _ | _ | _ | _ | _ | _ | _ | _ | _ | _ | _ | _ | _ | _ | _ | _ | _ | _ | _ | _ | _ | i
      all_goals try obtain rfl := Option.some.inj ho
      all_goals try simp only [putAll, fillL, List.getElem_toArray, List.getElem_cons_succ, List.getElem_cons_zero]
      · go_wp2
        exact ⟨_, rfl, _, _, _, hJ.step 0 _ (by decide) (fun y e => by injection e with e; exact e.symm)⟩
      · go_wp2
        exact ⟨_, rfl, _, _, _, hJ.step 1 _ (by decide) (fun y e => by injection e with e; exact e.symm)⟩
      · go_wp2
        exact ⟨_, rfl, _, _, _, hJ.step 2 _ (by decide) (fun y e => by injection e with e; exact e.symm)⟩
      · go_wp2
        exact ⟨_, rfl, _, _, _, hJ.step 3 _ (by decide) (fun y e => by injection e with e; exact e.symm)⟩
      · have e3 := hJ.vals 3 _ (hd 3 (by decide)) rfl
        rw [e3]
        go_wp2
        exact ⟨_, by simp only [putAll, fillL, e3] <;> rfl, _, _, _, hJ.step 4 _ (by decide) (fun y e => by injection e with e; exact e.symm)⟩
      · have e4 := hJ.vals 4 _ (hd 4 (by decide)) rfl
        rw [e4]
        go_wp2
        exact ⟨_, by simp only [putAll, fillL, e4] <;> rfl, _, _, _, hJ.step 5 _ (by decide) (fun y e => by injection e with e; exact e.symm)⟩
      · have hl : L 29 = false := by
          cases hh : L 29
          · rfl
          · rw [hC 29 _ rfl hh 6 (by decide)] at hi; cases hi
        have hbx := hJ.box
        rw [hl] at hbx
        obtain ⟨⟨y0, y1, y2⟩, -⟩ := blk3 hbx
        simp only [cond_false] at y0
        clear y1
        clear y2
        have e5 := hJ.vals 5 _ (hd 5 (by decide)) rfl
        rw [e5]
        go_wp2
        exact ⟨_, by simp only [putAll, fillL, e5] <;> rfl, _, _, _, hJ.step 6 _ (by decide) (fun y e => by injection e with e; exact e.symm)⟩
      · go_wp2
        exact ⟨_, rfl, _, _, _, hJ.step 7 _ (by decide) (fun y e => by injection e with e; exact e.symm)⟩
      · have e7 := hJ.vals 7 _ (hd 7 (by decide)) rfl
        rw [e7]
        have hN := Lib.hid ((hJ.below ((Below.refl ww.heap.size ww).alloc (Nat.le_refl _) (.cells #[.int .i64 0] 3))).made8 rfl (by have := hJ.kept.size; omega) (cell_new rfl rfl))
        go_wp2
        exact ⟨_, by simp only [putAll, fillL, e7] <;> rfl, _, _, _, hN.out⟩
      · have e6 := hJ.vals 6 _ (hd 6 (by decide)) rfl
        obtain ⟨x, e8, hx, hc⟩ := hJ.t8 (hd 8 (by decide))
        have hl : L 29 = false := by
          cases hh : L 29
          · rfl
          · rw [hC 29 _ rfl hh 9 (by decide)] at hi; cases hi
        have hoo := hJ.o1
        rw [hi] at hoo
        simp only [cond_false] at hoo
        rw [e6, e8]
        go_wp2_with (at_builtin; refine wp_append_intG _ rfl _ _ rfl B (.slice a1 pos k1) r.p rfl hoo.1 0 rfl hc (by omega) (by have := hJ.kept.size; omega) ?_; intro vn wn hvn hgn htn; have hN := Lib.hid (hJ.added9 rfl hi hl hv1 hvn hgn htn hFn hpn rfl))
        exact ⟨_, by simp only [putAll, fillL, e6, e8] <;> rfl, _, _, _, hN.out⟩
      · go_wp2
        exact ⟨_, rfl, _, _, _, hJ.step 10 _ (by decide) (fun y e => by injection e with e; exact e.symm)⟩
      · have e10 := hJ.vals 10 _ (hd 10 (by decide)) rfl
        rw [e10]
        go_wp2
        exact ⟨_, by simp only [putAll, fillL, e10] <;> rfl, _, _, _, hJ.step 11 _ (by decide) (fun y e => by injection e with e; exact e.symm)⟩
      · have e11 := hJ.vals 11 _ (hd 11 (by decide)) rfl
        rw [e11]
        go_wp2
        exact ⟨_, by simp only [putAll, fillL, e11] <;> rfl, _, _, _, hJ.step 12 _ (by decide) (fun y e => by injection e with e; exact e.symm)⟩
      · have hl : L 32 = false := by
          cases hh : L 32
          · rfl
          · rw [hC 32 _ rfl hh 13 (by decide)] at hi; cases hi
        have hbx := hJ.box
        rw [hl] at hbx
        obtain ⟨⟨y0, y1, y2⟩, -⟩ := blk3 hbx
        simp only [cond_false] at y1
        clear y0
        clear y2
        have e12 := hJ.vals 12 _ (hd 12 (by decide)) rfl
        rw [e12]
        go_wp2
        exact ⟨_, by simp only [putAll, fillL, e12] <;> rfl, _, _, _, hJ.step 13 _ (by decide) (fun y e => by injection e with e; exact e.symm)⟩
      · go_wp2
        exact ⟨_, rfl, _, _, _, hJ.step 14 _ (by decide) (fun y e => by injection e with e; exact e.symm)⟩
      · go_wp2
        exact ⟨_, rfl, _, _, _, hJ.step 15 _ (by decide) (fun y e => by injection e with e; exact e.symm)⟩
      · go_wp2
        exact ⟨_, rfl, _, _, _, hJ.step 16 _ (by decide) (fun y e => by injection e with e; exact e.symm)⟩
      · have e14 := hJ.vals 14 _ (hd 14 (by decide)) rfl
        have e15 := hJ.vals 15 _ (hd 15 (by decide)) rfl
        have e16 := hJ.vals 16 _ (hd 16 (by decide)) rfl
        have hl : L 18 = false := by
          cases hh : L 18
          · rfl
          · rw [hC 18 _ rfl hh 17 (by decide)] at hi; cases hi
        have hTw := hT1.off hJ.kept hFT
        rw [e14, e15, e16]
        go_wp2_with fail
        refine (c_said ht 0 p (by simp) (by omega) _ hTw).mono ?_
        rintro e wn ⟨vn, rfl, hvn, hbn⟩
        have hN := Lib.hid ((hJ.below hbn).made17 rfl hl (hvn.mono (by have := hJ.kept.size; omega)) (fun g e => by have h1 := (OwnS.lt hvn g e).1; exact ⟨fun f => by have := hlG _ _ hJ.kept.size (hJ.g1 g f) (.inl); omega, fun f => by have := hlG _ _ hJ.kept.size (hJ.g2 g f) (fun q => .inr (.inl q)); omega, fun f => by have := hlG _ _ hJ.kept.size (hJ.g3 g f) (fun q => .inr (.inr q)); omega⟩))
        go_wp2
        exact ⟨_, by simp only [putAll, fillL, e14, e15, e16] <;> rfl, _, _, _, hN.out⟩
      · have h17 := hJ.t17 (hd 17 (by decide))
        obtain ⟨ab, cb, eb, -, -⟩ := h17.ints.out
        have hN := Lib.hid ((hJ.below ((Below.refl ww.heap.size ww).alloc (Nat.le_refl _) (.cells #[u 17] 31))).made18 rfl (by have := hJ.kept.size; omega) (cell_new rfl rfl))
        rw [eb] at hN ⊢
        go_wp2
        exact ⟨_, by simp only [putAll, fillL, eb] <;> rfl, _, _, _, hN.out⟩
      · have e13 := hJ.vals 13 _ (hd 13 (by decide)) rfl
        have hl17 := hd 17 (by decide)
        obtain ⟨x, e18, hx, hc⟩ := hJ.t18 (hd 18 (by decide))
        have hl : L 32 = false := by
          cases hh : L 32
          · rfl
          · rw [hC 32 _ rfl hh 19 (by decide)] at hi; cases hi
        have hoo := hJ.o2
        rw [hi] at hoo
        simp only [cond_false] at hoo
        rw [e13, e18]
        go_wp2_with (at_builtin; refine wp_append_rowG _ rfl _ _ rfl B G2 (.slice a2 pos k2) r.s rfl hoo (u 17) _ ((hJ.t17 hl17).mono (by omega)) (fun g e => ((hJ.f17 hl17 hi) g e).2.1) rfl hc (by omega) (by have := hJ.kept.size; omega) ?_; intro vn wn hvn hgn _; have hN := Lib.hid (hJ.added19 rfl hi hl hv2 hvn hl17 hgn hFn hpn rfl))
        exact ⟨_, by simp only [putAll, fillL, e13, e18] <;> rfl, _, _, _, hN.out⟩
      · go_wp2
        exact ⟨_, rfl, _, _, _, hJ.step 20 _ (by decide) (fun y e => by injection e with e; exact e.symm)⟩
      · have e20 := hJ.vals 20 _ (hd 20 (by decide)) rfl
        rw [e20]
        go_wp2
        exact ⟨_, by simp only [putAll, fillL, e20] <;> rfl, _, _, _, hJ.step 21 _ (by decide) (fun y e => by injection e with e; exact e.symm)⟩
      · have e21 := hJ.vals 21 _ (hd 21 (by decide)) rfl
        rw [e21]
        go_wp2
        exact ⟨_, by simp only [putAll, fillL, e21] <;> rfl, _, _, _, hJ.step 22 _ (by decide) (fun y e => by injection e with e; exact e.symm)⟩
      · have hl : L 35 = false := by
          cases hh : L 35
          · rfl
          · rw [hC 35 _ rfl hh 23 (by decide)] at hi; cases hi
        have hbx := hJ.box
        rw [hl] at hbx
        obtain ⟨⟨y0, y1, y2⟩, -⟩ := blk3 hbx
        simp only [cond_false] at y2
        clear y0
        clear y1
        have e22 := hJ.vals 22 _ (hd 22 (by decide)) rfl
        rw [e22]
        go_wp2
        exact ⟨_, by simp only [putAll, fillL, e22] <;> rfl, _, _, _, hJ.step 23 _ (by decide) (fun y e => by injection e with e; exact e.symm)⟩
      · go_wp2
        exact ⟨_, rfl, _, _, _, hJ.step 24 _ (by decide) (fun y e => by injection e with e; exact e.symm)⟩
      · have e24 := hJ.vals 24 _ (hd 24 (by decide)) rfl
        rw [e24]
        have hN := Lib.hid ((hJ.below ((Below.refl ww.heap.size ww).alloc (Nat.le_refl _) (.cells #[.int .i64 0, .int .i64 0] 76))).made25 rfl (by have := hJ.kept.size; omega) (cell_new rfl rfl) (cell_new rfl rfl))
        go_wp2
        exact ⟨_, by simp only [putAll, fillL, e24] <;> rfl, _, _, _, hN.out⟩
      · have e23 := hJ.vals 23 _ (hd 23 (by decide)) rfl
        obtain ⟨x, e25, hx, hc, hc2⟩ := hJ.t25 (hd 25 (by decide))
        have hl : L 35 = false := by
          cases hh : L 35
          · rfl
          · rw [hC 35 _ rfl hh 26 (by decide)] at hi; cases hi
        have hoo := hJ.o3
        rw [hi] at hoo
        simp only [cond_false] at hoo
        rw [e23, e25]
        go_wp2_with (at_builtin; refine wp_append_pairG _ rfl _ _ rfl B (.slice a3 pos k3) r.x rfl hoo.1 0 0 rfl hc hc2 (by omega) (by have := hJ.kept.size; omega) ?_; intro vn wn hvn hgn htn; have hN := Lib.hid (hJ.added26 rfl hi hl hv3 hvn hgn htn hFn hpn rfl))
        exact ⟨_, by simp only [putAll, fillL, e23, e25] <;> rfl, _, _, _, hN.out⟩
      · have e0 := hJ.vals 0 _ (hd 0 (by decide)) rfl
        rw [e0]
        go_wp2
        exact ⟨_, by simp only [putAll, fillL, e0] <;> rfl, _, _, _, hJ.step 27 _ (by decide) (fun y e => by injection e with e; exact e.symm)⟩
      · have e27 := hJ.vals 27 _ (hd 27 (by decide)) rfl
        rw [e27]
        go_wp2
        exact ⟨_, by simp only [putAll, fillL, e27] <;> rfl, _, _, _, hJ.step 28 _ (by decide) (fun y e => by injection e with e; exact e.symm)⟩
      · have eq := hJ.vals 28 _ (hd 28 (by decide)) rfl
        have hoo := hJ.o1
        rw [hd 9 (by decide)] at hoo
        simp only [cond_true] at hoo
        obtain ⟨ab, cb, eb, -, -⟩ := hoo.rd.out
        rw [List.length_append, hl1] at eb
        replace eb : u 9 = .slice ab (pos + 1) cb := eb
        have hN := Lib.hid (hJ.stored29 rfl hFn hpn)
        have hbx := hJ.box
        obtain ⟨⟨y0, y1, y2⟩, f0, f1, f2⟩ := blk3 hbx
        have hpw := (Array.getElem?_eq_some_iff.1 hbx).1
        clear y1 f1
        clear y2 f2
        rw [eb] at hN
        rw [eq, eb]
        go_wp2
        exact ⟨undef, by simp only [putAll, fillL, eq, eb] <;> rfl, _, _, _, hN.out⟩
      · have e1 := hJ.vals 1 _ (hd 1 (by decide)) rfl
        rw [e1]
        go_wp2
        exact ⟨_, by simp only [putAll, fillL, e1] <;> rfl, _, _, _, hJ.step 30 _ (by decide) (fun y e => by injection e with e; exact e.symm)⟩
      · have e30 := hJ.vals 30 _ (hd 30 (by decide)) rfl
        rw [e30]
        go_wp2
        exact ⟨_, by simp only [putAll, fillL, e30] <;> rfl, _, _, _, hJ.step 31 _ (by decide) (fun y e => by injection e with e; exact e.symm)⟩
      · have eq := hJ.vals 31 _ (hd 31 (by decide)) rfl
        have hoo := hJ.o2
        rw [hd 19 (by decide)] at hoo
        simp only [cond_true] at hoo
        obtain ⟨ab, cb, eb, -⟩ := hoo.rows.out
        rw [List.length_append, hl2] at eb
        replace eb : u 19 = .slice ab (pos + 1) cb := eb
        have hN := Lib.hid (hJ.stored32 rfl hFn hpn)
        have hbx := hJ.box
        obtain ⟨⟨y0, y1, y2⟩, f0, f1, f2⟩ := blk3 hbx
        have hpw := (Array.getElem?_eq_some_iff.1 hbx).1
        clear y0 f0
        clear y2 f2
        rw [eb] at hN
        rw [eq, eb]
        go_wp2
        exact ⟨undef, by simp only [putAll, fillL, eq, eb] <;> rfl, _, _, _, hN.out⟩
      · have e2 := hJ.vals 2 _ (hd 2 (by decide)) rfl
        rw [e2]
        go_wp2
        exact ⟨_, by simp only [putAll, fillL, e2] <;> rfl, _, _, _, hJ.step 33 _ (by decide) (fun y e => by injection e with e; exact e.symm)⟩
      · have e33 := hJ.vals 33 _ (hd 33 (by decide)) rfl
        rw [e33]
        go_wp2
        exact ⟨_, by simp only [putAll, fillL, e33] <;> rfl, _, _, _, hJ.step 34 _ (by decide) (fun y e => by injection e with e; exact e.symm)⟩
      · have eq := hJ.vals 34 _ (hd 34 (by decide)) rfl
        have hoo := hJ.o3
        rw [hd 26 (by decide)] at hoo
        simp only [cond_true] at hoo
        obtain ⟨ab, cb, eb, -⟩ := hoo.rd.out
        rw [List.length_append, hl3] at eb
        replace eb : u 26 = .slice ab (pos + 1) cb := eb
        have hN := Lib.hid (hJ.stored35 rfl hFn hpn)
        have hbx := hJ.box
        obtain ⟨⟨y0, y1, y2⟩, f0, f1, f2⟩ := blk3 hbx
        have hpw := (Array.getElem?_eq_some_iff.1 hbx).1
        clear y0 f0
        clear y1 f1
        rw [eb] at hN
        rw [eq, eb]
        go_wp2
        exact ⟨undef, by simp only [putAll, fillL, eq, eb] <;> rfl, _, _, _, hN.out⟩
      · simp at ho
    · intro L u ww hJ hall
      obtain ⟨G1, G2, G3, hJ⟩ := hJ
      have bx := hJ.box
      have p1 := hJ.o1
      have p2 := hJ.o2
      have p3 := hJ.o3
      rw [hall 29 (by decide), hall 32 (by decide), hall 35 (by decide)] at bx
      rw [hall 9 (by decide)] at p1
      rw [hall 19 (by decide)] at p2
      rw [hall 26 (by decide)] at p3
      simp only [cond_true] at bx p1 p2 p3
      obtain ⟨b1, c1, eb1, -, -⟩ := p1.rd.out
      obtain ⟨b2, c2, eb2, -⟩ := p2.rows.out
      obtain ⟨b3, c3, eb3, -⟩ := p3.rd.out
      rw [List.length_append, hl1] at eb1
      rw [List.length_append, hl2] at eb2
      rw [List.length_append, hl3] at eb3
      replace eb1 : u 9 = .slice b1 (pos + 1) c1 := eb1
      replace eb2 : u 19 = .slice b2 (pos + 1) c2 := eb2
      replace eb3 : u 26 = .slice b3 (pos + 1) c3 := eb3
      rw [eb1, eb2, eb3] at bx
      rw [eb1] at p1
      rw [eb2] at p2
      rw [eb3] at p3
      have hT2 := hT1.off hJ.kept hFT
      have hbr2 := (hJ.kept.block w.heap.size (by omega) (fun f => by
        rcases f with f | f | f | f
        · have := hF _ (i1 _ f); omega
        · have := hF _ (i2 _ f); omega
        · have := hF _ (i3 _ f); omega
        · omega)).trans hbr1
      have hzw := hJ.kept.size
      have hK2 : KeptOff (fun k => F k ∨ k = pb ∨ k = mb) w ww := (((kept0 hA).mono (G := fun k => F k ∨ k = pb ∨ k = mb) fun _ f => f.elim).trans (hk1.mono fun k f => .inr (.inr f))).trans (hJ.kept.mono fun k f => by
        rcases f with f | f | f | f
        · exact .inl (i1 k f)
        · exact .inl (i2 k f)
        · exact .inl (i3 k f)
        · exact .inr (.inl f))
      have hTY : OwnT3 ww B (fun k => F k ∨ (w.heap.size + 1 ≤ k ∧ k < ww.heap.size ∧ k ≠ gb ∧ k ≠ mb ∧ k ≠ pb)) (.slice b1 (pos + 1) c1) (.slice b2 (pos + 1) c2) (.slice b3 (pos + 1) c3) (addS r [(0, bitsL (t.length) p, (0, 0))]) :=
        ⟨G1, G2, G3, p1, p2, p3, fun k g => (hJ.g1 k g).imp (i1 k) fun q => by omega, fun k g => (hJ.g2 k g).imp (i2 k) fun q => by omega, fun k g => (hJ.g3 k g).imp (i3 k) fun q => by omega, hJ.d12, hJ.d13, hJ.d23⟩
      clear hJ hall p1 p2 p3 hstart
      clear hT1 hk1 hp1 hbr1 o1 o2 o3 d12 d13 d23 hv1 hv2 hv3 hlG hFT hFn hF1 i1 i2 i3
      obtain ⟨⟨y0, y1⟩, -⟩ := blk2 hbr2
      simp only [putAll, fillL]
      clear eb1 eb2 eb3
      go_wp2_with fail
      refine (c_parts0 R C p hR1 hC1 (by omega) q2 _).mono ?_
      rintro e w3 ⟨rfl, hb3⟩
      have hS0 : PlanS t v B gb mb pb F w r 0 (bitsL (t.length) p) 0 0 [] w3 := by
        refine ⟨hT2.below hb3, kept_then hK2 hb3, b1, c1, b2, c2, b3, c3, ?_, ?_⟩
        · rw [hl1]
          exact blk_later hb3 bx
        · rw [hl1]
          exact (hTY.below hb3).mono fun k f => by have := hb3.size; rcases f with f | f; exact .inl f; exact .inr (by omega)
      clear hT2 hK2 bx hTY hbr2 y0 y1
      have hi0 := ixr0
      have hi1 := ixr1
      go_wp2_with fail
      go_loopw [63] (fun i wr => ∃ q : Nat, q ≤ 2 ∧ i = .int .i64 q ∧ Hid (PlanS t v B gb mb pb F w r 0 (bitsL (t.length) p) (if 1 ≤ q then (stepsF t s (R - p) (C) (pos + 1)).2 else 0) (if 2 ≤ q then (stepsF t s (p) (C) (pos + 1 + (stepsF t s (R - p) (C) (pos + 1)).1.length)).2 else 0) (if q = 0 then [] else if q = 1 then (stepsF t s (R - p) (C) (pos + 1)).1 else (stepsF t s (R - p) (C) (pos + 1)).1 ++ (stepsF t s (p) (C) (pos + 1 + (stepsF t s (R - p) (C) (pos + 1)).1.length)).1) wr)) (fun i _ => 2 - (intOf i).toNat)
      case atStart => exact ⟨0, by omega, rfl, Lib.hid hS0⟩
      case round =>
        clear hS0
        obtain ⟨q, hq2, rfl, hS⟩ := hrel
        rcases (by omega : q = 0 ∨ q = 1 ∨ q = 2) with rfl | rfl | rfl
        · skip
          have hS' : PlanS t v B gb mb pb F w r 0 (bitsL (t.length) p) (0) (0) ([]) wr := by simpa using hS.out
          clear hS
          obtain ⟨D, hD⟩ : ∃ D, D = stepsF t s (R - p) (C) (pos + 1) := ⟨_, rfl⟩
          have hDl := stepsF_len t s (R - p) (C) (pos + 1)
          rw [← hD] at hDl
          have hlw := hS'.lt
          have hAp := (Below.refl wr.heap.size wr).alloc (Nat.le_refl _) (.cells #[.int .i64 ((R - p : Nat) : Int), .int .i64 ((C : Nat) : Int)] 81)
          have hbp : (wr.alloc (.cells #[.int .i64 ((R - p : Nat) : Int), .int .i64 ((C : Nat) : Int)] 81)).heap[wr.heap.size]? = some (.cells #[.int .i64 ((R - p : Nat) : Int), .int .i64 ((C : Nat) : Int)] 81 (0, 0)) := heap_alloc_at rfl
          have hSA := hS'.below hAp
          have hzA : (wr.alloc (.cells #[.int .i64 ((R - p : Nat) : Int), .int .i64 ((C : Nat) : Int)] 81)).heap.size = wr.heap.size + 1 := by simp
          have c1 := c_plain gb v _ t (R - p) (C) _ hSA.1.1 hSA.1.rows ht (by omega) (by omega)
          obtain ⟨pn, hpn⟩ : ∃ z, z = plN t (R - p) (C) := ⟨_, rfl⟩
          have hp01 : 0 ≤ pn ∧ pn ≤ 1 := by rw [hpn]; unfold plN; split <;> omega
          rw [← hpn] at c1
          replace hpn := Lib.hid hpn
          replace hD := Lib.hid hD
          clear hS'
          go_wp2_with fail
          refine c1.mono ?_
          rintro e w4 ⟨rfl, hb4⟩
          have hS4 := hSA.below hb4
          replace hbp := blk_later hb4 hbp
          have hz4 := hb4.size
          rw [hzA] at hz4
          clear hSA c1 hAp
          obtain ⟨⟨r0, r1⟩, -⟩ := blk2 hbp
          cases hpp : plB t (R - p) (C)
          · have hv := stepsF_val (pos := pos + 1) (f := s) (by omega) hpp
            rw [← hD.out] at hv
            obtain ⟨d1, d2, f1, m1, f2, m2, f3, m3, d3, d4⟩ := id hS4
            have hc := hk (R - p) (C) (by omega) (by omega) (by omega) (by omega) (by omega) (by omega) (by omega) hpp w4 pb _ _ _ _ _ (pos + 1) d1 d3 hBp d4 (fun k f => by rcases f with f | f; have := hF k f; omega; omega) (by rw [withE_p]; simp; omega) (by rw [withE_s]; simp; omega) (by rw [withE_x]; simp; omega) (by omega)
            rw [← hD.out] at hc
            replace hv := Lib.hid hv
            clear d1 d2 d3 d4
            replace hpp := Lib.hid hpp
            go_wp2_with fail
            refine hc.mono ?_
            rintro e w5 ⟨rfl, j1, j2, j3, j4, j5, j6, j7⟩
            have hS5 := hS4.more j1 j2 j6 j7 (by omega) (by omega) (by omega)
            clear hS4 hc j1 j2 j6 j7 hbp r0 r1 hb4
            obtain ⟨e1, n1, e2, n2, g, n3, x3, hgl, ⟨x4, x5⟩, x6, ⟨x7, x8⟩, x9, x10, x11⟩ := hS5.cells (by omega)
            obtain ⟨⟨y0, y1, y2⟩, -⟩ := blk3 x3
            have hN : ∀ z, z = D.2 → PlanS t v B gb mb pb F w r 0 (bitsL (t.length) p) (D.2) (0) ([] ++ D.1) (w5.setCell ⟨g, r.p.length * 2 + 0, none⟩ (.int .i64 z)) := fun z hz => hz ▸ (x10 D.2 hF (by omega))
            clear x10 x11 x3
            rw [hl1] at hN x5 x6 x8 x9 y0 y1 y2
            replace hN := Lib.hid hN
            go_wp2
            go_roundw
            case rel => exact ⟨0 + 1, by omega, by go_num, Lib.hid (by have h := hN.out; simp [← hD.out]; exact h _ (by have := hv.out; omega))⟩
            case measure => simp [intOf]
          · have hv := stepsF_plain (pos := pos + 1) (f := s) (by omega) hpp
            rw [← hD.out, ← hpn.out] at hv
            replace hpp := Lib.hid hpp
            have hS5 : PlanS t v B gb mb pb F w r 0 (bitsL (t.length) p) (0) (0) ([] ++ D.1) w4 := by rw [hv]; simpa using hS4
            replace hv : Hid (-1 - pn = D.2) := Lib.hid (by rw [hv])
            obtain ⟨e1, n1, e2, n2, g, n3, x3, hgl, ⟨x4, x5⟩, x6, ⟨x7, x8⟩, x9, x10, x11⟩ := hS5.cells (by omega)
            obtain ⟨⟨y0, y1, y2⟩, -⟩ := blk3 x3
            have hN : ∀ z, z = D.2 → PlanS t v B gb mb pb F w r 0 (bitsL (t.length) p) (D.2) (0) ([] ++ D.1) (w4.setCell ⟨g, r.p.length * 2 + 0, none⟩ (.int .i64 z)) := fun z hz => hz ▸ (x10 D.2 hF (by omega))
            clear x10 x11 x3 hS4 hS5
            rw [hl1] at hN x5 x6 x8 x9 y0 y1 y2
            replace hN := Lib.hid hN
            go_wp2
            go_roundw
            case rel => exact ⟨0 + 1, by omega, by go_num, Lib.hid (by have h := hN.out; simp [← hD.out]; exact h _ (by have := hv.out; omega))⟩
            case measure => simp [intOf]
        · skip
          obtain ⟨A1, hA1⟩ : ∃ A1, A1 = stepsF t s (R - p) (C) (pos + 1) := ⟨_, rfl⟩
          have hA1l := stepsF_len t s (R - p) (C) (pos + 1)
          rw [← hA1] at hA1l hS ⊢
          replace hA1 := Lib.hid hA1
          have hS' : PlanS t v B gb mb pb F w r 0 (bitsL (t.length) p) (A1.2) (0) (A1.1) wr := by simpa using hS.out
          clear hS
          obtain ⟨D, hD⟩ : ∃ D, D = stepsF t s (p) (C) (pos + 1 + A1.1.length) := ⟨_, rfl⟩
          have hDl := stepsF_len t s (p) (C) (pos + 1 + A1.1.length)
          rw [← hD] at hDl
          have hlw := hS'.lt
          have hAp := (Below.refl wr.heap.size wr).alloc (Nat.le_refl _) (.cells #[.int .i64 ((p : Nat) : Int), .int .i64 ((C : Nat) : Int)] 81)
          have hbp : (wr.alloc (.cells #[.int .i64 ((p : Nat) : Int), .int .i64 ((C : Nat) : Int)] 81)).heap[wr.heap.size]? = some (.cells #[.int .i64 ((p : Nat) : Int), .int .i64 ((C : Nat) : Int)] 81 (0, 0)) := heap_alloc_at rfl
          have hSA := hS'.below hAp
          have hzA : (wr.alloc (.cells #[.int .i64 ((p : Nat) : Int), .int .i64 ((C : Nat) : Int)] 81)).heap.size = wr.heap.size + 1 := by simp
          have c1 := c_plain gb v _ t (p) (C) _ hSA.1.1 hSA.1.rows ht (by omega) (by omega)
          obtain ⟨pn, hpn⟩ : ∃ z, z = plN t (p) (C) := ⟨_, rfl⟩
          have hp01 : 0 ≤ pn ∧ pn ≤ 1 := by rw [hpn]; unfold plN; split <;> omega
          rw [← hpn] at c1
          replace hpn := Lib.hid hpn
          replace hD := Lib.hid hD
          clear hS'
          go_wp2_with fail
          refine c1.mono ?_
          rintro e w4 ⟨rfl, hb4⟩
          have hS4 := hSA.below hb4
          replace hbp := blk_later hb4 hbp
          have hz4 := hb4.size
          rw [hzA] at hz4
          clear hSA c1 hAp
          obtain ⟨⟨r0, r1⟩, -⟩ := blk2 hbp
          cases hpp : plB t (p) (C)
          · have hv := stepsF_val (pos := pos + 1 + A1.1.length) (f := s) (by omega) hpp
            rw [← hD.out] at hv
            obtain ⟨d1, d2, f1, m1, f2, m2, f3, m3, d3, d4⟩ := id hS4
            have hc := hk (p) (C) (by omega) (by omega) (by omega) (by omega) (by omega) (by omega) (by omega) hpp w4 pb _ _ _ _ _ (pos + 1 + A1.1.length) d1 d3 hBp d4 (fun k f => by rcases f with f | f; have := hF k f; omega; omega) (by rw [withE_p]; simp; omega) (by rw [withE_s]; simp; omega) (by rw [withE_x]; simp; omega) (by omega)
            rw [← hD.out] at hc
            replace hv := Lib.hid hv
            clear d1 d2 d3 d4
            replace hpp := Lib.hid hpp
            go_wp2_with fail
            refine hc.mono ?_
            rintro e w5 ⟨rfl, j1, j2, j3, j4, j5, j6, j7⟩
            have hS5 := hS4.more j1 j2 j6 j7 (by omega) (by omega) (by omega)
            clear hS4 hc j1 j2 j6 j7 hbp r0 r1 hb4
            obtain ⟨e1, n1, e2, n2, g, n3, x3, hgl, ⟨x4, x5⟩, x6, ⟨x7, x8⟩, x9, x10, x11⟩ := hS5.cells (by omega)
            obtain ⟨⟨y0, y1, y2⟩, -⟩ := blk3 x3
            have hN : ∀ z, z = D.2 → PlanS t v B gb mb pb F w r 0 (bitsL (t.length) p) (A1.2) (D.2) (A1.1 ++ D.1) (w5.setCell ⟨g, r.p.length * 2 + 1, none⟩ (.int .i64 z)) := fun z hz => hz ▸ (x11 D.2 hF (by omega))
            clear x10 x11 x3
            rw [hl1] at hN x5 x6 x8 x9 y0 y1 y2
            replace hN := Lib.hid hN
            go_wp2
            go_roundw
            case rel => exact ⟨1 + 1, by omega, by go_num, Lib.hid (by have h := hN.out; simp [← hD.out]; exact h _ (by have := hv.out; omega))⟩
            case measure => simp [intOf]
          · have hv := stepsF_plain (pos := pos + 1 + A1.1.length) (f := s) (by omega) hpp
            rw [← hD.out, ← hpn.out] at hv
            replace hpp := Lib.hid hpp
            have hS5 : PlanS t v B gb mb pb F w r 0 (bitsL (t.length) p) (A1.2) (0) (A1.1 ++ D.1) w4 := by rw [hv]; simpa using hS4
            replace hv : Hid (-1 - pn = D.2) := Lib.hid (by rw [hv])
            obtain ⟨e1, n1, e2, n2, g, n3, x3, hgl, ⟨x4, x5⟩, x6, ⟨x7, x8⟩, x9, x10, x11⟩ := hS5.cells (by omega)
            obtain ⟨⟨y0, y1, y2⟩, -⟩ := blk3 x3
            have hN : ∀ z, z = D.2 → PlanS t v B gb mb pb F w r 0 (bitsL (t.length) p) (A1.2) (D.2) (A1.1 ++ D.1) (w4.setCell ⟨g, r.p.length * 2 + 1, none⟩ (.int .i64 z)) := fun z hz => hz ▸ (x11 D.2 hF (by omega))
            clear x10 x11 x3 hS4 hS5
            rw [hl1] at hN x5 x6 x8 x9 y0 y1 y2
            replace hN := Lib.hid hN
            go_wp2
            go_roundw
            case rel => exact ⟨1 + 1, by omega, by go_num, Lib.hid (by have h := hN.out; simp [← hD.out]; exact h _ (by have := hv.out; omega))⟩
            case measure => simp [intOf]
        · obtain ⟨A1, hA1⟩ : ∃ A1, A1 = stepsF t s (R - p) (C) (pos + 1) := ⟨_, rfl⟩
          rw [← hA1] at hS
          obtain ⟨D1, hD1⟩ : ∃ D1, D1 = stepsF t s (p) (C) (pos + 1 + A1.1.length) := ⟨_, rfl⟩
          rw [← hD1] at hS
          have hE : Hid (addS r (stepsF t (s + 1) R C pos).1 = withE r 0 (bitsL (t.length) p) A1.2 D1.2 (A1.1 ++ D1.1)) := Lib.hid (by rw [hst.out, ← hA1, ← hD1]; rfl)
          have hS' : PlanS t v B gb mb pb F w r 0 (bitsL (t.length) p) A1.2 D1.2 (A1.1 ++ D1.1) wr := by simpa using hS.out
          clear hS
          replace hA1 := Lib.hid hA1
          replace hD1 := Lib.hid hD1
          go_wp2
          go_ret
          obtain ⟨g1, g2, f1, m1, f2, m2, f3, m3, g3, g4⟩ := hS'
          exact ⟨rfl, g1, g2, _, _, _, g3, by rw [hE.out]; exact g4.mono fun k f => by rcases f with f | f; exact .inl f; exact .inr (by omega)⟩
  · skip
    rw [hf]
    obtain ⟨q0, q1, q2⟩ := spl_mem hq
    have hst := stepsF_1 (f := s) (pos := pos) hp hf
    replace hst := Lib.hid hst
    replace hf := Lib.hid hf
    replace hq := Lib.hid hq
    go_wp2_with fail
    have hstart : ∀ u, JPL B w1.heap.size pb F1 F2 F3 (.slice a1 pos k1) (.slice a2 pos k2) (.slice a3 pos k3) r 1 (bitsL (wid t) p) w1 [some (.pointer (some ⟨pb, 0, none⟩)), some (.pointer (some ⟨pb, 0, none⟩)), some (.pointer (some ⟨pb, 0, none⟩)), some (.pointer (some ⟨pb, 0, none⟩)), some (.pointer (some ⟨pb, 0, none⟩)), some (.pointer (some ⟨pb, 0, none⟩)), some (.slice a1 pos k1), some (.int .i64 1), none, none, some (.pointer (some ⟨pb, 0, none⟩)), some (.pointer (some ⟨pb, 0, none⟩)), some (.pointer (some ⟨pb, 1, none⟩)), some (.slice a2 pos k2), some (.pointer (some ⟨gb, 0, none⟩)), some (.int .i64 1), some (.int .i64 (p : Int)), none, none, none, some (.pointer (some ⟨pb, 0, none⟩)), some (.pointer (some ⟨pb, 0, none⟩)), some (.pointer (some ⟨pb, 2, none⟩)), some (.slice a3 pos k3), some (.agg #[.int .i64 0, .int .i64 0]), none, none, some (.pointer (some ⟨pb, 0, none⟩)), some (.pointer (some ⟨pb, 0, none⟩)), none, some (.pointer (some ⟨pb, 0, none⟩)), some (.pointer (some ⟨pb, 1, none⟩)), none, some (.pointer (some ⟨pb, 0, none⟩)), some (.pointer (some ⟨pb, 2, none⟩)), none] (fun _ => false) u w1.drew F1 F2 F3 := fun u =>
      ⟨fun j x h => (by cases h), ((kept0 (Below.refl w1.heap.size w1).drew).mono fun _ f => f.elim), hp1, o1.below (Below.refl _ _).drew, o2.below (Below.refl _ _).drew, o3.below (Below.refl _ _).drew, fun k f => .inl f, fun k f => .inl f, fun k f => .inl f, d12, d13, d23, fun h => (by cases h), fun h => (by cases h), fun h => (by cases h), fun h => (by cases h), fun h => (by cases h)⟩
    refine wp_region_J (by kernel_rfl) [none, none, none, none, none, none, none, none, none, none, none, none, none, none, none, none, none, none, none, none, none, none, none, none, none, none, some 0, some 1, some 2, some 3, some 4, some 5, some 6, some 7, some 8, some 9, some 10, some 11, some 12, some 13, some 14, some 15, some 16, some 17, some 18, some 19, some 20, some 21, some 22, some 23, some 24, some 25, some 26, some 27, some 28, some 30, some 31, some 33, some 34] (by kernel_rfl) (by kernel_rfl)
      (fun L u ww => ∃ G1 G2 G3, JPL B w1.heap.size pb F1 F2 F3 (.slice a1 pos k1) (.slice a2 pos k2) (.slice a3 pos k3) r 1 (bitsL (wid t) p) w1 [some (.pointer (some ⟨pb, 0, none⟩)), some (.pointer (some ⟨pb, 0, none⟩)), some (.pointer (some ⟨pb, 0, none⟩)), some (.pointer (some ⟨pb, 0, none⟩)), some (.pointer (some ⟨pb, 0, none⟩)), some (.pointer (some ⟨pb, 0, none⟩)), some (.slice a1 pos k1), some (.int .i64 1), none, none, some (.pointer (some ⟨pb, 0, none⟩)), some (.pointer (some ⟨pb, 0, none⟩)), some (.pointer (some ⟨pb, 1, none⟩)), some (.slice a2 pos k2), some (.pointer (some ⟨gb, 0, none⟩)), some (.int .i64 1), some (.int .i64 (p : Int)), none, none, none, some (.pointer (some ⟨pb, 0, none⟩)), some (.pointer (some ⟨pb, 0, none⟩)), some (.pointer (some ⟨pb, 2, none⟩)), some (.slice a3 pos k3), some (.agg #[.int .i64 0, .int .i64 0]), none, none, some (.pointer (some ⟨pb, 0, none⟩)), some (.pointer (some ⟨pb, 0, none⟩)), none, some (.pointer (some ⟨pb, 0, none⟩)), some (.pointer (some ⟨pb, 1, none⟩)), none, some (.pointer (some ⟨pb, 0, none⟩)), some (.pointer (some ⟨pb, 2, none⟩)), none] L u ww G1 G2 G3) ⟨F1, F2, F3, hstart _⟩ ?_ ?_
    · intro i o ho L u ww hJ hi hd hC
      obtain ⟨G1, G2, G3, hJ⟩ := hJ
      rcases i with _ | _ | _ | _ | _ | _ | _ | _ | _ | _ | _ | _ | _ | _ | _ | _ | _ | _ | _ | _ | _ | _ | _ | _ | _ | _ | _ | _ | _ | _ | _ | _ | _ | _ | _ | _ | i
      all_goals try obtain rfl := Option.some.inj ho
      all_goals try simp only [putAll, fillL, List.getElem_toArray, List.getElem_cons_succ, List.getElem_cons_zero]
      · go_wp2
        exact ⟨_, rfl, _, _, _, hJ.step 0 _ (by decide) (fun y e => by injection e with e; exact e.symm)⟩
      · go_wp2
        exact ⟨_, rfl, _, _, _, hJ.step 1 _ (by decide) (fun y e => by injection e with e; exact e.symm)⟩
      · go_wp2
        exact ⟨_, rfl, _, _, _, hJ.step 2 _ (by decide) (fun y e => by injection e with e; exact e.symm)⟩
      · go_wp2
        exact ⟨_, rfl, _, _, _, hJ.step 3 _ (by decide) (fun y e => by injection e with e; exact e.symm)⟩
      · have e3 := hJ.vals 3 _ (hd 3 (by decide)) rfl
        rw [e3]
        go_wp2
        exact ⟨_, by simp only [putAll, fillL, e3] <;> rfl, _, _, _, hJ.step 4 _ (by decide) (fun y e => by injection e with e; exact e.symm)⟩
      · have e4 := hJ.vals 4 _ (hd 4 (by decide)) rfl
        rw [e4]
        go_wp2
        exact ⟨_, by simp only [putAll, fillL, e4] <;> rfl, _, _, _, hJ.step 5 _ (by decide) (fun y e => by injection e with e; exact e.symm)⟩
      · have hl : L 29 = false := by
          cases hh : L 29
          · rfl
          · rw [hC 29 _ rfl hh 6 (by decide)] at hi; cases hi
        have hbx := hJ.box
        rw [hl] at hbx
        obtain ⟨⟨y0, y1, y2⟩, -⟩ := blk3 hbx
        simp only [cond_false] at y0
        clear y1
        clear y2
        have e5 := hJ.vals 5 _ (hd 5 (by decide)) rfl
        rw [e5]
        go_wp2
        exact ⟨_, by simp only [putAll, fillL, e5] <;> rfl, _, _, _, hJ.step 6 _ (by decide) (fun y e => by injection e with e; exact e.symm)⟩
      · go_wp2
        exact ⟨_, rfl, _, _, _, hJ.step 7 _ (by decide) (fun y e => by injection e with e; exact e.symm)⟩
      · have e7 := hJ.vals 7 _ (hd 7 (by decide)) rfl
        rw [e7]
        have hN := Lib.hid ((hJ.below ((Below.refl ww.heap.size ww).alloc (Nat.le_refl _) (.cells #[.int .i64 1] 3))).made8 rfl (by have := hJ.kept.size; omega) (cell_new rfl rfl))
        go_wp2
        exact ⟨_, by simp only [putAll, fillL, e7] <;> rfl, _, _, _, hN.out⟩
      · have e6 := hJ.vals 6 _ (hd 6 (by decide)) rfl
        obtain ⟨x, e8, hx, hc⟩ := hJ.t8 (hd 8 (by decide))
        have hl : L 29 = false := by
          cases hh : L 29
          · rfl
          · rw [hC 29 _ rfl hh 9 (by decide)] at hi; cases hi
        have hoo := hJ.o1
        rw [hi] at hoo
        simp only [cond_false] at hoo
        rw [e6, e8]
        go_wp2_with (at_builtin; refine wp_append_intG _ rfl _ _ rfl B (.slice a1 pos k1) r.p rfl hoo.1 1 rfl hc (by omega) (by have := hJ.kept.size; omega) ?_; intro vn wn hvn hgn htn; have hN := Lib.hid (hJ.added9 rfl hi hl hv1 hvn hgn htn hFn hpn rfl))
        exact ⟨_, by simp only [putAll, fillL, e6, e8] <;> rfl, _, _, _, hN.out⟩
      · go_wp2
        exact ⟨_, rfl, _, _, _, hJ.step 10 _ (by decide) (fun y e => by injection e with e; exact e.symm)⟩
      · have e10 := hJ.vals 10 _ (hd 10 (by decide)) rfl
        rw [e10]
        go_wp2
        exact ⟨_, by simp only [putAll, fillL, e10] <;> rfl, _, _, _, hJ.step 11 _ (by decide) (fun y e => by injection e with e; exact e.symm)⟩
      · have e11 := hJ.vals 11 _ (hd 11 (by decide)) rfl
        rw [e11]
        go_wp2
        exact ⟨_, by simp only [putAll, fillL, e11] <;> rfl, _, _, _, hJ.step 12 _ (by decide) (fun y e => by injection e with e; exact e.symm)⟩
      · have hl : L 32 = false := by
          cases hh : L 32
          · rfl
          · rw [hC 32 _ rfl hh 13 (by decide)] at hi; cases hi
        have hbx := hJ.box
        rw [hl] at hbx
        obtain ⟨⟨y0, y1, y2⟩, -⟩ := blk3 hbx
        simp only [cond_false] at y1
        clear y0
        clear y2
        have e12 := hJ.vals 12 _ (hd 12 (by decide)) rfl
        rw [e12]
        go_wp2
        exact ⟨_, by simp only [putAll, fillL, e12] <;> rfl, _, _, _, hJ.step 13 _ (by decide) (fun y e => by injection e with e; exact e.symm)⟩
      · go_wp2
        exact ⟨_, rfl, _, _, _, hJ.step 14 _ (by decide) (fun y e => by injection e with e; exact e.symm)⟩
      · go_wp2
        exact ⟨_, rfl, _, _, _, hJ.step 15 _ (by decide) (fun y e => by injection e with e; exact e.symm)⟩
      · go_wp2
        exact ⟨_, rfl, _, _, _, hJ.step 16 _ (by decide) (fun y e => by injection e with e; exact e.symm)⟩
      · have e14 := hJ.vals 14 _ (hd 14 (by decide)) rfl
        have e15 := hJ.vals 15 _ (hd 15 (by decide)) rfl
        have e16 := hJ.vals 16 _ (hd 16 (by decide)) rfl
        have hl : L 18 = false := by
          cases hh : L 18
          · rfl
          · rw [hC 18 _ rfl hh 17 (by decide)] at hi; cases hi
        have hTw := hT1.off hJ.kept hFT
        rw [e14, e15, e16]
        go_wp2_with fail
        refine (c_said ht 1 p (by simp) (by omega) _ hTw).mono ?_
        rintro e wn ⟨vn, rfl, hvn, hbn⟩
        have hN := Lib.hid ((hJ.below hbn).made17 rfl hl (hvn.mono (by have := hJ.kept.size; omega)) (fun g e => by have h1 := (OwnS.lt hvn g e).1; exact ⟨fun f => by have := hlG _ _ hJ.kept.size (hJ.g1 g f) (.inl); omega, fun f => by have := hlG _ _ hJ.kept.size (hJ.g2 g f) (fun q => .inr (.inl q)); omega, fun f => by have := hlG _ _ hJ.kept.size (hJ.g3 g f) (fun q => .inr (.inr q)); omega⟩))
        go_wp2
        exact ⟨_, by simp only [putAll, fillL, e14, e15, e16] <;> rfl, _, _, _, hN.out⟩
      · have h17 := hJ.t17 (hd 17 (by decide))
        obtain ⟨ab, cb, eb, -, -⟩ := h17.ints.out
        have hN := Lib.hid ((hJ.below ((Below.refl ww.heap.size ww).alloc (Nat.le_refl _) (.cells #[u 17] 31))).made18 rfl (by have := hJ.kept.size; omega) (cell_new rfl rfl))
        rw [eb] at hN ⊢
        go_wp2
        exact ⟨_, by simp only [putAll, fillL, eb] <;> rfl, _, _, _, hN.out⟩
      · have e13 := hJ.vals 13 _ (hd 13 (by decide)) rfl
        have hl17 := hd 17 (by decide)
        obtain ⟨x, e18, hx, hc⟩ := hJ.t18 (hd 18 (by decide))
        have hl : L 32 = false := by
          cases hh : L 32
          · rfl
          · rw [hC 32 _ rfl hh 19 (by decide)] at hi; cases hi
        have hoo := hJ.o2
        rw [hi] at hoo
        simp only [cond_false] at hoo
        rw [e13, e18]
        go_wp2_with (at_builtin; refine wp_append_rowG _ rfl _ _ rfl B G2 (.slice a2 pos k2) r.s rfl hoo (u 17) _ ((hJ.t17 hl17).mono (by omega)) (fun g e => ((hJ.f17 hl17 hi) g e).2.1) rfl hc (by omega) (by have := hJ.kept.size; omega) ?_; intro vn wn hvn hgn _; have hN := Lib.hid (hJ.added19 rfl hi hl hv2 hvn hl17 hgn hFn hpn rfl))
        exact ⟨_, by simp only [putAll, fillL, e13, e18] <;> rfl, _, _, _, hN.out⟩
      · go_wp2
        exact ⟨_, rfl, _, _, _, hJ.step 20 _ (by decide) (fun y e => by injection e with e; exact e.symm)⟩
      · have e20 := hJ.vals 20 _ (hd 20 (by decide)) rfl
        rw [e20]
        go_wp2
        exact ⟨_, by simp only [putAll, fillL, e20] <;> rfl, _, _, _, hJ.step 21 _ (by decide) (fun y e => by injection e with e; exact e.symm)⟩
      · have e21 := hJ.vals 21 _ (hd 21 (by decide)) rfl
        rw [e21]
        go_wp2
        exact ⟨_, by simp only [putAll, fillL, e21] <;> rfl, _, _, _, hJ.step 22 _ (by decide) (fun y e => by injection e with e; exact e.symm)⟩
      · have hl : L 35 = false := by
          cases hh : L 35
          · rfl
          · rw [hC 35 _ rfl hh 23 (by decide)] at hi; cases hi
        have hbx := hJ.box
        rw [hl] at hbx
        obtain ⟨⟨y0, y1, y2⟩, -⟩ := blk3 hbx
        simp only [cond_false] at y2
        clear y0
        clear y1
        have e22 := hJ.vals 22 _ (hd 22 (by decide)) rfl
        rw [e22]
        go_wp2
        exact ⟨_, by simp only [putAll, fillL, e22] <;> rfl, _, _, _, hJ.step 23 _ (by decide) (fun y e => by injection e with e; exact e.symm)⟩
      · go_wp2
        exact ⟨_, rfl, _, _, _, hJ.step 24 _ (by decide) (fun y e => by injection e with e; exact e.symm)⟩
      · have e24 := hJ.vals 24 _ (hd 24 (by decide)) rfl
        rw [e24]
        have hN := Lib.hid ((hJ.below ((Below.refl ww.heap.size ww).alloc (Nat.le_refl _) (.cells #[.int .i64 0, .int .i64 0] 76))).made25 rfl (by have := hJ.kept.size; omega) (cell_new rfl rfl) (cell_new rfl rfl))
        go_wp2
        exact ⟨_, by simp only [putAll, fillL, e24] <;> rfl, _, _, _, hN.out⟩
      · have e23 := hJ.vals 23 _ (hd 23 (by decide)) rfl
        obtain ⟨x, e25, hx, hc, hc2⟩ := hJ.t25 (hd 25 (by decide))
        have hl : L 35 = false := by
          cases hh : L 35
          · rfl
          · rw [hC 35 _ rfl hh 26 (by decide)] at hi; cases hi
        have hoo := hJ.o3
        rw [hi] at hoo
        simp only [cond_false] at hoo
        rw [e23, e25]
        go_wp2_with (at_builtin; refine wp_append_pairG _ rfl _ _ rfl B (.slice a3 pos k3) r.x rfl hoo.1 0 0 rfl hc hc2 (by omega) (by have := hJ.kept.size; omega) ?_; intro vn wn hvn hgn htn; have hN := Lib.hid (hJ.added26 rfl hi hl hv3 hvn hgn htn hFn hpn rfl))
        exact ⟨_, by simp only [putAll, fillL, e23, e25] <;> rfl, _, _, _, hN.out⟩
      · have e0 := hJ.vals 0 _ (hd 0 (by decide)) rfl
        rw [e0]
        go_wp2
        exact ⟨_, by simp only [putAll, fillL, e0] <;> rfl, _, _, _, hJ.step 27 _ (by decide) (fun y e => by injection e with e; exact e.symm)⟩
      · have e27 := hJ.vals 27 _ (hd 27 (by decide)) rfl
        rw [e27]
        go_wp2
        exact ⟨_, by simp only [putAll, fillL, e27] <;> rfl, _, _, _, hJ.step 28 _ (by decide) (fun y e => by injection e with e; exact e.symm)⟩
      · have eq := hJ.vals 28 _ (hd 28 (by decide)) rfl
        have hoo := hJ.o1
        rw [hd 9 (by decide)] at hoo
        simp only [cond_true] at hoo
        obtain ⟨ab, cb, eb, -, -⟩ := hoo.rd.out
        rw [List.length_append, hl1] at eb
        replace eb : u 9 = .slice ab (pos + 1) cb := eb
        have hN := Lib.hid (hJ.stored29 rfl hFn hpn)
        have hbx := hJ.box
        obtain ⟨⟨y0, y1, y2⟩, f0, f1, f2⟩ := blk3 hbx
        have hpw := (Array.getElem?_eq_some_iff.1 hbx).1
        clear y1 f1
        clear y2 f2
        rw [eb] at hN
        rw [eq, eb]
        go_wp2
        exact ⟨undef, by simp only [putAll, fillL, eq, eb] <;> rfl, _, _, _, hN.out⟩
      · have e1 := hJ.vals 1 _ (hd 1 (by decide)) rfl
        rw [e1]
        go_wp2
        exact ⟨_, by simp only [putAll, fillL, e1] <;> rfl, _, _, _, hJ.step 30 _ (by decide) (fun y e => by injection e with e; exact e.symm)⟩
      · have e30 := hJ.vals 30 _ (hd 30 (by decide)) rfl
        rw [e30]
        go_wp2
        exact ⟨_, by simp only [putAll, fillL, e30] <;> rfl, _, _, _, hJ.step 31 _ (by decide) (fun y e => by injection e with e; exact e.symm)⟩
      · have eq := hJ.vals 31 _ (hd 31 (by decide)) rfl
        have hoo := hJ.o2
        rw [hd 19 (by decide)] at hoo
        simp only [cond_true] at hoo
        obtain ⟨ab, cb, eb, -⟩ := hoo.rows.out
        rw [List.length_append, hl2] at eb
        replace eb : u 19 = .slice ab (pos + 1) cb := eb
        have hN := Lib.hid (hJ.stored32 rfl hFn hpn)
        have hbx := hJ.box
        obtain ⟨⟨y0, y1, y2⟩, f0, f1, f2⟩ := blk3 hbx
        have hpw := (Array.getElem?_eq_some_iff.1 hbx).1
        clear y0 f0
        clear y2 f2
        rw [eb] at hN
        rw [eq, eb]
        go_wp2
        exact ⟨undef, by simp only [putAll, fillL, eq, eb] <;> rfl, _, _, _, hN.out⟩
      · have e2 := hJ.vals 2 _ (hd 2 (by decide)) rfl
        rw [e2]
        go_wp2
        exact ⟨_, by simp only [putAll, fillL, e2] <;> rfl, _, _, _, hJ.step 33 _ (by decide) (fun y e => by injection e with e; exact e.symm)⟩
      · have e33 := hJ.vals 33 _ (hd 33 (by decide)) rfl
        rw [e33]
        go_wp2
        exact ⟨_, by simp only [putAll, fillL, e33] <;> rfl, _, _, _, hJ.step 34 _ (by decide) (fun y e => by injection e with e; exact e.symm)⟩
      · have eq := hJ.vals 34 _ (hd 34 (by decide)) rfl
        have hoo := hJ.o3
        rw [hd 26 (by decide)] at hoo
        simp only [cond_true] at hoo
        obtain ⟨ab, cb, eb, -⟩ := hoo.rd.out
        rw [List.length_append, hl3] at eb
        replace eb : u 26 = .slice ab (pos + 1) cb := eb
        have hN := Lib.hid (hJ.stored35 rfl hFn hpn)
        have hbx := hJ.box
        obtain ⟨⟨y0, y1, y2⟩, f0, f1, f2⟩ := blk3 hbx
        have hpw := (Array.getElem?_eq_some_iff.1 hbx).1
        clear y0 f0
        clear y1 f1
        rw [eb] at hN
        rw [eq, eb]
        go_wp2
        exact ⟨undef, by simp only [putAll, fillL, eq, eb] <;> rfl, _, _, _, hN.out⟩
      · simp at ho
    · intro L u ww hJ hall
      obtain ⟨G1, G2, G3, hJ⟩ := hJ
      have bx := hJ.box
      have p1 := hJ.o1
      have p2 := hJ.o2
      have p3 := hJ.o3
      rw [hall 29 (by decide), hall 32 (by decide), hall 35 (by decide)] at bx
      rw [hall 9 (by decide)] at p1
      rw [hall 19 (by decide)] at p2
      rw [hall 26 (by decide)] at p3
      simp only [cond_true] at bx p1 p2 p3
      obtain ⟨b1, c1, eb1, -, -⟩ := p1.rd.out
      obtain ⟨b2, c2, eb2, -⟩ := p2.rows.out
      obtain ⟨b3, c3, eb3, -⟩ := p3.rd.out
      rw [List.length_append, hl1] at eb1
      rw [List.length_append, hl2] at eb2
      rw [List.length_append, hl3] at eb3
      replace eb1 : u 9 = .slice b1 (pos + 1) c1 := eb1
      replace eb2 : u 19 = .slice b2 (pos + 1) c2 := eb2
      replace eb3 : u 26 = .slice b3 (pos + 1) c3 := eb3
      rw [eb1, eb2, eb3] at bx
      rw [eb1] at p1
      rw [eb2] at p2
      rw [eb3] at p3
      have hT2 := hT1.off hJ.kept hFT
      have hbr2 := (hJ.kept.block w.heap.size (by omega) (fun f => by
        rcases f with f | f | f | f
        · have := hF _ (i1 _ f); omega
        · have := hF _ (i2 _ f); omega
        · have := hF _ (i3 _ f); omega
        · omega)).trans hbr1
      have hzw := hJ.kept.size
      have hK2 : KeptOff (fun k => F k ∨ k = pb ∨ k = mb) w ww := (((kept0 hA).mono (G := fun k => F k ∨ k = pb ∨ k = mb) fun _ f => f.elim).trans (hk1.mono fun k f => .inr (.inr f))).trans (hJ.kept.mono fun k f => by
        rcases f with f | f | f | f
        · exact .inl (i1 k f)
        · exact .inl (i2 k f)
        · exact .inl (i3 k f)
        · exact .inr (.inl f))
      have hTY : OwnT3 ww B (fun k => F k ∨ (w.heap.size + 1 ≤ k ∧ k < ww.heap.size ∧ k ≠ gb ∧ k ≠ mb ∧ k ≠ pb)) (.slice b1 (pos + 1) c1) (.slice b2 (pos + 1) c2) (.slice b3 (pos + 1) c3) (addS r [(1, bitsL (wid t) p, (0, 0))]) :=
        ⟨G1, G2, G3, p1, p2, p3, fun k g => (hJ.g1 k g).imp (i1 k) fun q => by omega, fun k g => (hJ.g2 k g).imp (i2 k) fun q => by omega, fun k g => (hJ.g3 k g).imp (i3 k) fun q => by omega, hJ.d12, hJ.d13, hJ.d23⟩
      clear hJ hall p1 p2 p3 hstart
      clear hT1 hk1 hp1 hbr1 o1 o2 o3 d12 d13 d23 hv1 hv2 hv3 hlG hFT hFn hF1 i1 i2 i3
      obtain ⟨⟨y0, y1⟩, -⟩ := blk2 hbr2
      simp only [putAll, fillL]
      clear eb1 eb2 eb3
      go_wp2_with fail
      refine (c_parts1 R C p hR1 hC1 (by omega) q2 _).mono ?_
      rintro e w3 ⟨rfl, hb3⟩
      have hS0 : PlanS t v B gb mb pb F w r 1 (bitsL (wid t) p) 0 0 [] w3 := by
        refine ⟨hT2.below hb3, kept_then hK2 hb3, b1, c1, b2, c2, b3, c3, ?_, ?_⟩
        · rw [hl1]
          exact blk_later hb3 bx
        · rw [hl1]
          exact (hTY.below hb3).mono fun k f => by have := hb3.size; rcases f with f | f; exact .inl f; exact .inr (by omega)
      clear hT2 hK2 bx hTY hbr2 y0 y1
      have hi0 := ixr0
      have hi1 := ixr1
      go_wp2_with fail
      go_loopw [63] (fun i wr => ∃ q : Nat, q ≤ 2 ∧ i = .int .i64 q ∧ Hid (PlanS t v B gb mb pb F w r 1 (bitsL (wid t) p) (if 1 ≤ q then (stepsF t s (R) (C - p) (pos + 1)).2 else 0) (if 2 ≤ q then (stepsF t s (R) (p) (pos + 1 + (stepsF t s (R) (C - p) (pos + 1)).1.length)).2 else 0) (if q = 0 then [] else if q = 1 then (stepsF t s (R) (C - p) (pos + 1)).1 else (stepsF t s (R) (C - p) (pos + 1)).1 ++ (stepsF t s (R) (p) (pos + 1 + (stepsF t s (R) (C - p) (pos + 1)).1.length)).1) wr)) (fun i _ => 2 - (intOf i).toNat)
      case atStart => exact ⟨0, by omega, rfl, Lib.hid hS0⟩
      case round =>
        clear hS0
        obtain ⟨q, hq2, rfl, hS⟩ := hrel
        rcases (by omega : q = 0 ∨ q = 1 ∨ q = 2) with rfl | rfl | rfl
        · skip
          have hS' : PlanS t v B gb mb pb F w r 1 (bitsL (wid t) p) (0) (0) ([]) wr := by simpa using hS.out
          clear hS
          obtain ⟨D, hD⟩ : ∃ D, D = stepsF t s (R) (C - p) (pos + 1) := ⟨_, rfl⟩
          have hDl := stepsF_len t s (R) (C - p) (pos + 1)
          rw [← hD] at hDl
          have hlw := hS'.lt
          have hAp := (Below.refl wr.heap.size wr).alloc (Nat.le_refl _) (.cells #[.int .i64 ((R : Nat) : Int), .int .i64 ((C - p : Nat) : Int)] 81)
          have hbp : (wr.alloc (.cells #[.int .i64 ((R : Nat) : Int), .int .i64 ((C - p : Nat) : Int)] 81)).heap[wr.heap.size]? = some (.cells #[.int .i64 ((R : Nat) : Int), .int .i64 ((C - p : Nat) : Int)] 81 (0, 0)) := heap_alloc_at rfl
          have hSA := hS'.below hAp
          have hzA : (wr.alloc (.cells #[.int .i64 ((R : Nat) : Int), .int .i64 ((C - p : Nat) : Int)] 81)).heap.size = wr.heap.size + 1 := by simp
          have c1 := c_plain gb v _ t (R) (C - p) _ hSA.1.1 hSA.1.rows ht (by omega) (by omega)
          obtain ⟨pn, hpn⟩ : ∃ z, z = plN t (R) (C - p) := ⟨_, rfl⟩
          have hp01 : 0 ≤ pn ∧ pn ≤ 1 := by rw [hpn]; unfold plN; split <;> omega
          rw [← hpn] at c1
          replace hpn := Lib.hid hpn
          replace hD := Lib.hid hD
          clear hS'
          go_wp2_with fail
          refine c1.mono ?_
          rintro e w4 ⟨rfl, hb4⟩
          have hS4 := hSA.below hb4
          replace hbp := blk_later hb4 hbp
          have hz4 := hb4.size
          rw [hzA] at hz4
          clear hSA c1 hAp
          obtain ⟨⟨r0, r1⟩, -⟩ := blk2 hbp
          cases hpp : plB t (R) (C - p)
          · have hv := stepsF_val (pos := pos + 1) (f := s) (by omega) hpp
            rw [← hD.out] at hv
            obtain ⟨d1, d2, f1, m1, f2, m2, f3, m3, d3, d4⟩ := id hS4
            have hc := hk (R) (C - p) (by omega) (by omega) (by omega) (by omega) (by omega) (by omega) (by omega) hpp w4 pb _ _ _ _ _ (pos + 1) d1 d3 hBp d4 (fun k f => by rcases f with f | f; have := hF k f; omega; omega) (by rw [withE_p]; simp; omega) (by rw [withE_s]; simp; omega) (by rw [withE_x]; simp; omega) (by omega)
            rw [← hD.out] at hc
            replace hv := Lib.hid hv
            clear d1 d2 d3 d4
            replace hpp := Lib.hid hpp
            go_wp2_with fail
            refine hc.mono ?_
            rintro e w5 ⟨rfl, j1, j2, j3, j4, j5, j6, j7⟩
            have hS5 := hS4.more j1 j2 j6 j7 (by omega) (by omega) (by omega)
            clear hS4 hc j1 j2 j6 j7 hbp r0 r1 hb4
            obtain ⟨e1, n1, e2, n2, g, n3, x3, hgl, ⟨x4, x5⟩, x6, ⟨x7, x8⟩, x9, x10, x11⟩ := hS5.cells (by omega)
            obtain ⟨⟨y0, y1, y2⟩, -⟩ := blk3 x3
            have hN : ∀ z, z = D.2 → PlanS t v B gb mb pb F w r 1 (bitsL (wid t) p) (D.2) (0) ([] ++ D.1) (w5.setCell ⟨g, r.p.length * 2 + 0, none⟩ (.int .i64 z)) := fun z hz => hz ▸ (x10 D.2 hF (by omega))
            clear x10 x11 x3
            rw [hl1] at hN x5 x6 x8 x9 y0 y1 y2
            replace hN := Lib.hid hN
            go_wp2
            go_roundw
            case rel => exact ⟨0 + 1, by omega, by go_num, Lib.hid (by have h := hN.out; simp [← hD.out]; exact h _ (by have := hv.out; omega))⟩
            case measure => simp [intOf]
          · have hv := stepsF_plain (pos := pos + 1) (f := s) (by omega) hpp
            rw [← hD.out, ← hpn.out] at hv
            replace hpp := Lib.hid hpp
            have hS5 : PlanS t v B gb mb pb F w r 1 (bitsL (wid t) p) (0) (0) ([] ++ D.1) w4 := by rw [hv]; simpa using hS4
            replace hv : Hid (-1 - pn = D.2) := Lib.hid (by rw [hv])
            obtain ⟨e1, n1, e2, n2, g, n3, x3, hgl, ⟨x4, x5⟩, x6, ⟨x7, x8⟩, x9, x10, x11⟩ := hS5.cells (by omega)
            obtain ⟨⟨y0, y1, y2⟩, -⟩ := blk3 x3
            have hN : ∀ z, z = D.2 → PlanS t v B gb mb pb F w r 1 (bitsL (wid t) p) (D.2) (0) ([] ++ D.1) (w4.setCell ⟨g, r.p.length * 2 + 0, none⟩ (.int .i64 z)) := fun z hz => hz ▸ (x10 D.2 hF (by omega))
            clear x10 x11 x3 hS4 hS5
            rw [hl1] at hN x5 x6 x8 x9 y0 y1 y2
            replace hN := Lib.hid hN
            go_wp2
            go_roundw
            case rel => exact ⟨0 + 1, by omega, by go_num, Lib.hid (by have h := hN.out; simp [← hD.out]; exact h _ (by have := hv.out; omega))⟩
            case measure => simp [intOf]
        · skip
          obtain ⟨A1, hA1⟩ : ∃ A1, A1 = stepsF t s (R) (C - p) (pos + 1) := ⟨_, rfl⟩
          have hA1l := stepsF_len t s (R) (C - p) (pos + 1)
          rw [← hA1] at hA1l hS ⊢
          replace hA1 := Lib.hid hA1
          have hS' : PlanS t v B gb mb pb F w r 1 (bitsL (wid t) p) (A1.2) (0) (A1.1) wr := by simpa using hS.out
          clear hS
          obtain ⟨D, hD⟩ : ∃ D, D = stepsF t s (R) (p) (pos + 1 + A1.1.length) := ⟨_, rfl⟩
          have hDl := stepsF_len t s (R) (p) (pos + 1 + A1.1.length)
          rw [← hD] at hDl
          have hlw := hS'.lt
          have hAp := (Below.refl wr.heap.size wr).alloc (Nat.le_refl _) (.cells #[.int .i64 ((R : Nat) : Int), .int .i64 ((p : Nat) : Int)] 81)
          have hbp : (wr.alloc (.cells #[.int .i64 ((R : Nat) : Int), .int .i64 ((p : Nat) : Int)] 81)).heap[wr.heap.size]? = some (.cells #[.int .i64 ((R : Nat) : Int), .int .i64 ((p : Nat) : Int)] 81 (0, 0)) := heap_alloc_at rfl
          have hSA := hS'.below hAp
          have hzA : (wr.alloc (.cells #[.int .i64 ((R : Nat) : Int), .int .i64 ((p : Nat) : Int)] 81)).heap.size = wr.heap.size + 1 := by simp
          have c1 := c_plain gb v _ t (R) (p) _ hSA.1.1 hSA.1.rows ht (by omega) (by omega)
          obtain ⟨pn, hpn⟩ : ∃ z, z = plN t (R) (p) := ⟨_, rfl⟩
          have hp01 : 0 ≤ pn ∧ pn ≤ 1 := by rw [hpn]; unfold plN; split <;> omega
          rw [← hpn] at c1
          replace hpn := Lib.hid hpn
          replace hD := Lib.hid hD
          clear hS'
          go_wp2_with fail
          refine c1.mono ?_
          rintro e w4 ⟨rfl, hb4⟩
          have hS4 := hSA.below hb4
          replace hbp := blk_later hb4 hbp
          have hz4 := hb4.size
          rw [hzA] at hz4
          clear hSA c1 hAp
          obtain ⟨⟨r0, r1⟩, -⟩ := blk2 hbp
          cases hpp : plB t (R) (p)
          · have hv := stepsF_val (pos := pos + 1 + A1.1.length) (f := s) (by omega) hpp
            rw [← hD.out] at hv
            obtain ⟨d1, d2, f1, m1, f2, m2, f3, m3, d3, d4⟩ := id hS4
            have hc := hk (R) (p) (by omega) (by omega) (by omega) (by omega) (by omega) (by omega) (by omega) hpp w4 pb _ _ _ _ _ (pos + 1 + A1.1.length) d1 d3 hBp d4 (fun k f => by rcases f with f | f; have := hF k f; omega; omega) (by rw [withE_p]; simp; omega) (by rw [withE_s]; simp; omega) (by rw [withE_x]; simp; omega) (by omega)
            rw [← hD.out] at hc
            replace hv := Lib.hid hv
            clear d1 d2 d3 d4
            replace hpp := Lib.hid hpp
            go_wp2_with fail
            refine hc.mono ?_
            rintro e w5 ⟨rfl, j1, j2, j3, j4, j5, j6, j7⟩
            have hS5 := hS4.more j1 j2 j6 j7 (by omega) (by omega) (by omega)
            clear hS4 hc j1 j2 j6 j7 hbp r0 r1 hb4
            obtain ⟨e1, n1, e2, n2, g, n3, x3, hgl, ⟨x4, x5⟩, x6, ⟨x7, x8⟩, x9, x10, x11⟩ := hS5.cells (by omega)
            obtain ⟨⟨y0, y1, y2⟩, -⟩ := blk3 x3
            have hN : ∀ z, z = D.2 → PlanS t v B gb mb pb F w r 1 (bitsL (wid t) p) (A1.2) (D.2) (A1.1 ++ D.1) (w5.setCell ⟨g, r.p.length * 2 + 1, none⟩ (.int .i64 z)) := fun z hz => hz ▸ (x11 D.2 hF (by omega))
            clear x10 x11 x3
            rw [hl1] at hN x5 x6 x8 x9 y0 y1 y2
            replace hN := Lib.hid hN
            go_wp2
            go_roundw
            case rel => exact ⟨1 + 1, by omega, by go_num, Lib.hid (by have h := hN.out; simp [← hD.out]; exact h _ (by have := hv.out; omega))⟩
            case measure => simp [intOf]
          · have hv := stepsF_plain (pos := pos + 1 + A1.1.length) (f := s) (by omega) hpp
            rw [← hD.out, ← hpn.out] at hv
            replace hpp := Lib.hid hpp
            have hS5 : PlanS t v B gb mb pb F w r 1 (bitsL (wid t) p) (A1.2) (0) (A1.1 ++ D.1) w4 := by rw [hv]; simpa using hS4
            replace hv : Hid (-1 - pn = D.2) := Lib.hid (by rw [hv])
            obtain ⟨e1, n1, e2, n2, g, n3, x3, hgl, ⟨x4, x5⟩, x6, ⟨x7, x8⟩, x9, x10, x11⟩ := hS5.cells (by omega)
            obtain ⟨⟨y0, y1, y2⟩, -⟩ := blk3 x3
            have hN : ∀ z, z = D.2 → PlanS t v B gb mb pb F w r 1 (bitsL (wid t) p) (A1.2) (D.2) (A1.1 ++ D.1) (w4.setCell ⟨g, r.p.length * 2 + 1, none⟩ (.int .i64 z)) := fun z hz => hz ▸ (x11 D.2 hF (by omega))
            clear x10 x11 x3 hS4 hS5
            rw [hl1] at hN x5 x6 x8 x9 y0 y1 y2
            replace hN := Lib.hid hN
            go_wp2
            go_roundw
            case rel => exact ⟨1 + 1, by omega, by go_num, Lib.hid (by have h := hN.out; simp [← hD.out]; exact h _ (by have := hv.out; omega))⟩
            case measure => simp [intOf]
        · obtain ⟨A1, hA1⟩ : ∃ A1, A1 = stepsF t s (R) (C - p) (pos + 1) := ⟨_, rfl⟩
          rw [← hA1] at hS
          obtain ⟨D1, hD1⟩ : ∃ D1, D1 = stepsF t s (R) (p) (pos + 1 + A1.1.length) := ⟨_, rfl⟩
          rw [← hD1] at hS
          have hE : Hid (addS r (stepsF t (s + 1) R C pos).1 = withE r 1 (bitsL (wid t) p) A1.2 D1.2 (A1.1 ++ D1.1)) := Lib.hid (by rw [hst.out, ← hA1, ← hD1]; rfl)
          have hS' : PlanS t v B gb mb pb F w r 1 (bitsL (wid t) p) A1.2 D1.2 (A1.1 ++ D1.1) wr := by simpa using hS.out
          clear hS
          replace hA1 := Lib.hid hA1
          replace hD1 := Lib.hid hD1
          go_wp2
          go_ret
          obtain ⟨g1, g2, f1, m1, f2, m2, f3, m3, g3, g4⟩ := hS'
          exact ⟨rfl, g1, g2, _, _, _, g3, by rw [hE.out]; exact g4.mono fun k f => by rcases f with f | f; exact .inl f; exact .inr (by omega)⟩
theorem c_plan {t : List (List Int)} (ht : taskB t = true) (v : Value) (B gb mb : Nat) : ∀ s, PlanK t v B gb mb s
  | 0 => fun R C h h1 => by omega
  | s + 1 => c_plan_step ht (c_plan ht v B gb mb s)
end Go.Proofs.Ytpieaeokbblflaa
