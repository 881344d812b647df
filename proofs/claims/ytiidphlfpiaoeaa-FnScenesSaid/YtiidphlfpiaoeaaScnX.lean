/- A scene in the making: its box, its contexts and sums behind it; conditions: none. -/
import Derived.Test.YtiidphlfpiaoeaaDrw
import Derived.Test.YtiidphlfpiaoeaaScene
import Derived.Test.YtiidphlfpiaoeaaSceneIs
import Derived.Test.YtiidphlfpiaoeaaJoin
namespace Go.Proofs.Ytiidphlfpiaoeaa
open Go.RowKit

theorem keptc {F G : Nat → Prop} {w a b : World} (h : KeptOff F w a) (k : KeptOff G a b) (hG : ∀ k, k < w.heap.size → G k → F k) : KeptOff F w b :=
  ⟨k.os.trans h.os, k.tape.trans h.tape, k.output.trans h.output, Nat.le_trans h.size k.size, fun i hi hf => (k.block i (Nat.lt_of_lt_of_le hi h.size) fun g => hf (hG i hi g)).trans (h.block i hi hf)⟩
structure ScnX (w : World) (lo sb : Nat) (F : Nat → Prop) (cv sv : Value) (r : SceneD) : Prop where
  low : lo ≤ sb
  box : w.heap[sb]? = some (.cells #[.int .i64 r.n, cv, sv] 27 (0, 0))
  row : OwnR w lo F cv r.c
  own : OwnI w lo sv r.s
  dis : ∀ k, F k → sv.ownBlock ≠ some k
theorem ScnX.lt {w : World} {lo sb : Nat} {F : Nat → Prop} {cv sv : Value} {r : SceneD} (h : ScnX w lo sb F cv sv r) : sb < w.heap.size := (Array.getElem?_eq_some_iff.1 h.box).1
theorem OwnR.tight {w : World} {B : Nat} {F : Nat → Prop} {v : Value} {xss : List (List Int)} (h : OwnR w B F v xss) : OwnR w B (fun k => F k ∧ B ≤ k ∧ k < w.heap.size) v xss := by
  obtain ⟨vs, hs, hn, hr, hd, hf, hg⟩ := h
  exact ⟨vs, hs, hn, hr, hd, fun g e => ⟨hf g e, hs.lt g e⟩, fun i h1 g e => ⟨hg i h1 g e, OwnS.lt (hr i h1 (by omega)) g e⟩⟩
theorem ScnX.tight {w : World} {lo sb : Nat} {F : Nat → Prop} {cv sv : Value} {r : SceneD} (h : ScnX w lo sb F cv sv r) : ScnX w lo sb (fun k => F k ∧ lo ≤ k ∧ k < w.heap.size) cv sv r :=
  ⟨h.low, h.box, h.row.tight, h.own, fun k f => h.dis k f.1⟩
theorem ScnX.off2 {w w' : World} {lo sb : Nat} {F G : Nat → Prop} {cv sv : Value} {r : SceneD} (h : ScnX w lo sb F cv sv r) (hk : KeptOff G w w') (hG : ∀ k, G k → k < lo ∨ w.heap.size ≤ k) : ScnX w' lo sb F cv sv r := by
  have ht := h.tight
  have hl := h.lt
  have h0 := h.low
  refine ⟨h.low, (hk.block sb h.lt fun g => by have := hG _ g; omega).trans h.box, (ht.row.off hk fun k f g => by have := hG _ g; omega).mono (Nat.le_refl _) fun k f => f.1, h.own.off hk fun g e f => by have := OwnS.lt h.own g e; have := hG _ f; omega, h.dis⟩
theorem ScnX.off {w w' : World} {lo sb : Nat} {F G : Nat → Prop} {cv sv : Value} {r : SceneD} (h : ScnX w lo sb F cv sv r) (hk : KeptOff G w w') (hG : ∀ k, G k → k < lo) : ScnX w' lo sb F cv sv r := h.off2 hk fun k g => .inl (hG k g)
theorem ScnX.below {w w' : World} {lo sb : Nat} {F : Nat → Prop} {cv sv : Value} {r : SceneD} (h : ScnX w lo sb F cv sv r) (hb : Below w.heap.size w w') : ScnX w' lo sb F cv sv r := h.off (kept0 hb) fun _ f => f.elim
theorem scn_cells {w : World} {sb : Nat} {a b c : Value} {t : TypeId} (h : w.heap[sb]? = some (.cells #[a, b, c] t (0, 0))) (v : Value) :
    (w.setCell ⟨sb, 0, none⟩ v).heap[sb]? = some (.cells #[v, b, c] t (0, 0)) ∧ (w.setCell ⟨sb, 1, none⟩ v).heap[sb]? = some (.cells #[a, v, c] t (0, 0)) ∧ (w.setCell ⟨sb, 2, none⟩ v).heap[sb]? = some (.cells #[a, b, v] t (0, 0)) :=
  ⟨blk_set h, blk_set h, blk_set h⟩
theorem not_box {w : World} {B sb : Nat} {E t : TypeId} {v : Value} {us : List Value} {c : Array Value} {f : Nat × Nat} (h : OwnS w B E v us) (hp : w.heap[sb]? = some (.cells c t f)) (hne : E ≠ t) : v.ownBlock ≠ some sb := fun e => by
  obtain ⟨c', hc'⟩ := h.block e
  rw [hp] at hc'
  simp at hc'
  exact hne hc'.2.1.symm
theorem ScnX.grownS {w w' : World} {lo sb : Nat} {F : Nat → Prop} {cv sv : Value} {r : SceneD} (h : ScnX w lo sb F cv sv r) (h2 : w.grownBy w' sv.ownBlock) : w'.heap[sb]? = some (.cells #[.int .i64 r.n, cv, sv] 27 (0, 0)) :=
  ((grown_kept h2).block sb h.lt (not_box h.own h.box (by decide))).trans h.box
theorem ScnX.grownC {w w' : World} {lo sb : Nat} {F : Nat → Prop} {cv sv : Value} {r : SceneD} (h : ScnX w lo sb F cv sv r) (h2 : w.grownBy w' cv.ownBlock) : w'.heap[sb]? = some (.cells #[.int .i64 r.n, cv, sv] 27 (0, 0)) := by
  obtain ⟨vs, ho, -⟩ := h.row.outer
  exact ((grown_kept h2).block sb h.lt (not_box ho h.box (by decide))).trans h.box
/-- a sum has been added -/
theorem ScnX.s {w w' : World} {lo sb : Nat} {F : Nat → Prop} {cv sv v' : Value} {r : SceneD} (h : ScnX w lo sb F cv sv r) (hF : ∀ k, F k → k < w.heap.size) (n : Int)
    (h1 : OwnI w' lo v' (r.s ++ [n])) (h2 : w.grownBy w' sv.ownBlock) (h3 : v'.ownBlock = sv.ownBlock ∨ v'.ownBlock = some w.heap.size) :
    ScnX (w'.setCell ⟨sb, 2, none⟩ v') lo sb F cv v' ⟨r.n, r.c, r.s ++ [n]⟩ ∧ KeptOff (fun k => lo ≤ k) w (w'.setCell ⟨sb, 2, none⟩ v') := by
  have hk := grown_kept h2
  have hs := keptOff_set w' sb 2 v'
  have hw := OwnS.lt h.own
  have hb := h.grownS h2
  have h0 := h.low
  refine ⟨⟨h.low, (scn_cells hb v').2.2, ownR_setT (h.row.off hk fun k f e => h.dis k f e) hb hs, own_setT h1 hb (by decide) hs, fun k f e => ?_⟩, (hk.mono fun k e => (hw _ e).1).trans (hs.mono fun k e => by omega)⟩
  rcases h3 with h3 | h3
  · exact h.dis k f (h3 ▸ e)
  · rw [h3] at e
    have := hF k f
    injection e with e
    omega
/-- a context has been added -/
theorem ScnX.c {w w' : World} {lo sb m : Nat} {F : Nat → Prop} {cv sv v' rw : Value} {r : SceneD} (h : ScnX w lo sb F cv sv r) (ys : List Int) (hr : ∀ k, rw.ownBlock = some k → m ≤ k) (hw : ∀ k, sv.ownBlock = some k → k < m)
    (h1 : ∀ G : Nat → Prop, (∀ k, F k → G k) → (∀ k, rw.ownBlock = some k → G k) → (∀ k, w.heap.size ≤ k → k < w'.heap.size → G k) → OwnR w' lo G v' (r.c ++ [ys])) (h2 : w.grownBy w' cv.ownBlock) :
    ScnX (w'.setCell ⟨sb, 1, none⟩ v') lo sb (fun k => sv.ownBlock ≠ some k) v' sv ⟨r.n, r.c ++ [ys], r.s⟩ ∧ KeptOff (fun k => lo ≤ k) w (w'.setCell ⟨sb, 1, none⟩ v') := by
  have hk := grown_kept h2
  have hs := keptOff_set w' sb 1 v'
  obtain ⟨vs, ho, -⟩ := h.row.outer
  have hrl := ho.lt
  have hb := h.grownC h2
  have h0 := h.low
  have hdr : ∀ k, cv.ownBlock = some k → F k := by obtain ⟨_, _, _, _, _, hf, _⟩ := h.row; exact hf
  have hR := h1 (fun k => sv.ownBlock ≠ some k) h.dis (fun k e e2 => by have := hr k e; have := hw k e2; omega) (fun k f g e => by have := OwnS.lt h.own k e; omega)
  refine ⟨⟨h.low, (scn_cells hb v').2.1, ownR_setT hR hb hs, own_setT (h.own.off hk fun g e f => h.dis g (hdr g f) e) hb (by decide) hs, fun k f e => f e⟩, (hk.mono fun k e => (hrl _ e).1).trans (hs.mono fun k e => by omega)⟩
/-- one sum is another -/
theorem ScnX.setS {w : World} {lo sb g n cap : Nat} {F : Nat → Prop} {cv : Value} {r : SceneD} (h : ScnX w lo sb F cv (.slice (some ⟨g, 0, none⟩) n cap) r) (j : Nat) (y : Int) :
    ScnX (w.setCell ⟨g, j, none⟩ (.int .i64 y)) lo sb F cv (.slice (some ⟨g, 0, none⟩) n cap) ⟨r.n, r.c, r.s.set j y⟩ ∧ KeptOff (fun k => lo ≤ k) w (w.setCell ⟨g, j, none⟩ (.int .i64 y)) := by
  obtain ⟨h1, h2⟩ := h.own.set j y
  have hs := keptOff_set w g j (.int .i64 y)
  have hg := OwnS.lt h.own g rfl
  have hne : sb ≠ g := fun e => not_box h.own h.box (by decide) (by rw [e]; rfl)
  exact ⟨⟨h.low, (hs.block sb h.lt hne).trans h.box, h.row.off hs fun k f e => h.dis k f (by subst e; rfl), h1, h.dis⟩, hs.mono fun k e => by omega⟩
/-- the number of events is another -/
theorem ScnX.setN {w : World} {lo sb : Nat} {F : Nat → Prop} {cv sv : Value} {r : SceneD} (h : ScnX w lo sb F cv sv r) (y : Int) :
    ScnX (w.setCell ⟨sb, 0, none⟩ (.int .i64 y)) lo sb F cv sv ⟨y, r.c, r.s⟩ ∧ KeptOff (fun k => lo ≤ k) w (w.setCell ⟨sb, 0, none⟩ (.int .i64 y)) := by
  have hs := keptOff_set w sb 0 (.int .i64 y)
  have h0 := h.low
  exact ⟨⟨h.low, (scn_cells h.box _).1, ownR_setT h.row h.box hs, own_setT h.own h.box (by decide) hs, h.dis⟩, hs.mono fun k e => by omega⟩
/-- a scene that is read, from blocks from lo on -/
def SceneB (w : World) (lo : Nat) (v : Value) (r : SceneD) : Prop := ∃ cv sv, v = .agg #[.int .i64 r.n, cv, sv] ∧ RowsB w lo cv r.c ∧ IntsB w lo sv r.s
theorem IntsB.mono {w : World} {lo lo' : Nat} {v : Value} {xs : List Int} (h : IntsB w lo v xs) (hl : lo' ≤ lo) : IntsB w lo' v xs := ⟨h.1, fun g e => Nat.le_trans hl (h.2 g e)⟩
theorem RowsB.mono {w : World} {lo lo' : Nat} {v : Value} {xss : List (List Int)} (h : RowsB w lo v xss) (hl : lo' ≤ lo) : RowsB w lo' v xss := by
  obtain ⟨vs, hs, hn, hr, hv, hvs⟩ := h
  exact ⟨vs, hs, hn, hr, fun g e => Nat.le_trans hl (hv g e), fun i h1 g e => Nat.le_trans hl (hvs i h1 g e)⟩
theorem SceneB.mono {w : World} {lo lo' : Nat} {v : Value} {r : SceneD} (h : SceneB w lo v r) (hl : lo' ≤ lo) : SceneB w lo' v r := by
  obtain ⟨cv, sv, e, h1, h2⟩ := h
  exact ⟨cv, sv, e, h1.mono hl, h2.mono hl⟩
theorem SceneB.off {w w' : World} {lo : Nat} {v : Value} {r : SceneD} {G : Nat → Prop} (h : SceneB w lo v r) (hk : KeptOff G w w') (hG : ∀ k, G k → k < lo) : SceneB w' lo v r := by
  obtain ⟨cv, sv, e, h1, h2⟩ := h
  exact ⟨cv, sv, e, h1.off hk hG, h2.off hk hG⟩
theorem SceneB.below {w w' : World} {lo : Nat} {v : Value} {r : SceneD} (h : SceneB w lo v r) (hb : Below w.heap.size w w') : SceneB w' lo v r := h.off (kept0 hb) fun _ f => f.elim
theorem SceneB.rd {w : World} {lo : Nat} {v : Value} {r : SceneD} (h : SceneB w lo v r) : SceneR w v r := by
  obtain ⟨cv, sv, e, h1, h2⟩ := h
  exact ⟨cv, sv, e, h1.rows, h2.1⟩
theorem ScnX.b {w : World} {lo sb : Nat} {F : Nat → Prop} {cv sv : Value} {r : SceneD} (h : ScnX w lo sb F cv sv r) : SceneB w lo (.agg #[.int .i64 r.n, cv, sv]) r := ⟨cv, sv, rfl, h.row.b, h.own.b⟩
theorem ScnX.form {w : World} {lo sb : Nat} {F : Nat → Prop} {cv sv : Value} {r : SceneD} (h : ScnX w lo sb F cv sv r) : ∃ a k b m, cv = .slice a r.c.length k ∧ sv = .slice b r.s.length m := by
  obtain ⟨a, k, rfl, -⟩ := h.row.rows.out
  obtain ⟨b, m, rfl, -, -⟩ := h.own.ints.out
  exact ⟨_, _, _, _, rfl, rfl⟩
end Go.Proofs.Ytiidphlfpiaoeaa
