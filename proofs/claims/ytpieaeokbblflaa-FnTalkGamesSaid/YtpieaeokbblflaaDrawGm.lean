/- A game in the making: its box, its weights and rows behind it; conditions: none. -/
import Derived.Test.YtpieaeokbblflaaDrawG
import Derived.Test.YtpieaeokbblflaaDrw
import Derived.Test.YtpieaeokbblflaaGame
import Derived.Test.YtpieaeokbblflaaAppG
namespace Go.Proofs.Ytpieaeokbblflaa
open Go.RowKit

theorem keptc {F G : Nat → Prop} {w a b : World} (h : KeptOff F w a) (k : KeptOff G a b) (hG : ∀ k, k < w.heap.size → G k → F k) : KeptOff F w b :=
  ⟨k.os.trans h.os, k.tape.trans h.tape, k.output.trans h.output, Nat.le_trans h.size k.size, fun i hi hf => (k.block i (Nat.lt_of_lt_of_le hi h.size) fun g => hf (hG i hi g)).trans (h.block i hi hf)⟩

structure GamX (w : World) (gb : Nat) (F : Nat → Prop) (wv rv : Value) (r : GameD) : Prop where
  box : w.heap[gb]? = some (.cells #[.int .i64 r.x, .int .i64 r.y, wv, rv] 46 (0, 0))
  own : OwnI w (gb + 1) wv r.p
  row : OwnR w (gb + 1) F rv r.r
  dis : ∀ k, F k → wv.ownBlock ≠ some k
theorem GamX.lt {w : World} {gb : Nat} {F : Nat → Prop} {wv rv : Value} {r : GameD} (h : GamX w gb F wv rv r) : gb < w.heap.size := (Array.getElem?_eq_some_iff.1 h.box).1
theorem OwnR.tight {w : World} {B : Nat} {F : Nat → Prop} {v : Value} {xss : List (List Int)} (h : OwnR w B F v xss) : OwnR w B (fun k => F k ∧ B ≤ k ∧ k < w.heap.size) v xss := by
  obtain ⟨vs, hs, hn, hr, hd, hf, hg⟩ := h
  exact ⟨vs, hs, hn, hr, hd, fun g e => ⟨hf g e, hs.lt g e⟩, fun i h1 g e => ⟨hg i h1 g e, OwnS.lt (hr i h1 (by omega)) g e⟩⟩
theorem GamX.tight {w : World} {gb : Nat} {F : Nat → Prop} {wv rv : Value} {r : GameD} (h : GamX w gb F wv rv r) : GamX w gb (fun k => F k ∧ gb + 1 ≤ k ∧ k < w.heap.size) wv rv r :=
  ⟨h.box, h.own, h.row.tight, fun k f => h.dis k f.1⟩
theorem GamX.off {w w' : World} {gb : Nat} {F G : Nat → Prop} {wv rv : Value} {r : GameD} (h : GamX w gb F wv rv r) (hk : KeptOff G w w') (hG : ∀ k, G k → k < gb) : GamX w' gb F wv rv r := by
  have ht := h.tight
  refine ⟨(hk.block gb h.lt fun g => by have := hG _ g; omega).trans h.box, h.own.off hk fun g e f => by have := OwnS.lt h.own g e; have := hG _ f; omega, (ht.row.off hk fun k f g => by have := hG _ g; omega).mono (Nat.le_refl _) fun k f => f.1, h.dis⟩
theorem GamX.below {w w' : World} {gb : Nat} {F : Nat → Prop} {wv rv : Value} {r : GameD} (h : GamX w gb F wv rv r) (hb : Below w.heap.size w w') : GamX w' gb F wv rv r := h.off (kept0 hb) fun _ f => f.elim
theorem GamX.game {w : World} {gb : Nat} {F : Nat → Prop} {wv rv : Value} {r : GameD} (h : GamX w gb F wv rv r) : GameR w (.agg #[.int .i64 r.x, .int .i64 r.y, wv, rv]) r := ⟨wv, rv, rfl, h.own.ints, h.row.rows⟩
theorem gam_cells {w : World} {gb : Nat} {a b c d : Value} {t : TypeId} (h : w.heap[gb]? = some (.cells #[a, b, c, d] t (0, 0))) (v : Value) :
    (w.setCell ⟨gb, 2, none⟩ v).heap[gb]? = some (.cells #[a, b, v, d] t (0, 0)) ∧ (w.setCell ⟨gb, 3, none⟩ v).heap[gb]? = some (.cells #[a, b, c, v] t (0, 0)) :=
  ⟨blk_set h, blk_set h⟩
theorem GamX.grownP {w w' : World} {gb : Nat} {F : Nat → Prop} {wv rv : Value} {r : GameD} (h : GamX w gb F wv rv r) (h2 : w.grownBy w' wv.ownBlock) : w'.heap[gb]? = some (.cells #[.int .i64 r.x, .int .i64 r.y, wv, rv] 46 (0, 0)) :=
  ((grown_kept h2).block gb h.lt fun e => by have := OwnS.lt h.own _ e; omega).trans h.box
theorem GamX.grownR {w w' : World} {gb : Nat} {F : Nat → Prop} {wv rv : Value} {r : GameD} (h : GamX w gb F wv rv r) (h2 : w.grownBy w' rv.ownBlock) : w'.heap[gb]? = some (.cells #[.int .i64 r.x, .int .i64 r.y, wv, rv] 46 (0, 0)) := by
  obtain ⟨vs, ho, -⟩ := h.row.outer
  exact ((grown_kept h2).block gb h.lt fun e => by have := ho.lt _ e; omega).trans h.box
/-- a weight has been added -/
theorem GamX.p {w w' : World} {gb : Nat} {F : Nat → Prop} {wv rv v' : Value} {r : GameD} (h : GamX w gb F wv rv r) (hF : ∀ k, F k → gb + 1 ≤ k ∧ k < w.heap.size) (n : Int)
    (h1 : OwnI w' (gb + 1) v' (r.p ++ [n])) (h2 : w.grownBy w' wv.ownBlock) (h3 : v'.ownBlock = wv.ownBlock ∨ v'.ownBlock = some w.heap.size) :
    GamX (w'.setCell ⟨gb, 2, none⟩ v') gb F v' rv ⟨r.x, r.y, r.p ++ [n], r.r⟩ ∧ KeptOff (fun k => gb ≤ k) w (w'.setCell ⟨gb, 2, none⟩ v') := by
  have hk := grown_kept h2
  have hs := keptOff_set w' gb 2 v'
  have hlt := h.lt
  have hw := OwnS.lt h.own
  have hb := (hk.block gb hlt fun e => by have := hw _ e; omega).trans h.box
  refine ⟨⟨(gam_cells hb v').1, h1.off hs fun g e f => by have := OwnS.lt h1 g e; omega, (h.row.off hk fun k f e => h.dis k f e).off hs fun k f g => by have := hF k f; omega, fun k f e => ?_⟩, (hk.mono fun k e => by have := hw _ e; omega).trans (hs.mono fun k e => by omega)⟩
  rcases h3 with h3 | h3
  · exact h.dis k f (h3 ▸ e)
  · rw [h3] at e
    have := hF k f
    injection e with e
    omega
/-- a row has been added -/
theorem GamX.r {w w' : World} {gb lo : Nat} {F : Nat → Prop} {wv rv v' rw : Value} {r : GameD} (h : GamX w gb F wv rv r) (ys : List Int) (hr : ∀ k, rw.ownBlock = some k → lo ≤ k) (hw : ∀ k, wv.ownBlock = some k → k < lo)
    (h1 : ∀ G : Nat → Prop, (∀ k, F k → G k) → (∀ k, rw.ownBlock = some k → G k) → (∀ k, w.heap.size ≤ k → k < w'.heap.size → G k) → OwnR w' (gb + 1) G v' (r.r ++ [ys])) (h2 : w.grownBy w' rv.ownBlock) :
    GamX (w'.setCell ⟨gb, 3, none⟩ v') gb (fun k => wv.ownBlock ≠ some k) wv v' ⟨r.x, r.y, r.p, r.r ++ [ys]⟩ ∧ KeptOff (fun k => gb ≤ k) w (w'.setCell ⟨gb, 3, none⟩ v') := by
  have hk := grown_kept h2
  have hs := keptOff_set w' gb 3 v'
  have hlt := h.lt
  obtain ⟨vs, ho, -⟩ := h.row.outer
  have hrl := ho.lt
  have hb := (hk.block gb hlt fun e => by have := hrl _ e; omega).trans h.box
  have hfr := h.row
  have hdr : ∀ k, rv.ownBlock = some k → F k := by obtain ⟨_, _, _, _, _, hf, _⟩ := h.row; exact hf
  have hR := h1 (fun k => wv.ownBlock ≠ some k) h.dis (fun k e e2 => by have := hr k e; have := hw k e2; omega) (fun k f g e => by have := OwnS.lt h.own k e; omega)
  refine ⟨⟨(gam_cells hb v').2, (h.own.off hk fun g e f => h.dis g (hdr g f) e).off hs fun g e f => by have := OwnS.lt h.own g e; omega, (hR.tight.off hs fun k f g => by omega).mono (Nat.le_refl _) fun k f => f.1, fun k f e => f e⟩, (hk.mono fun k e => by have := hrl _ e; omega).trans (hs.mono fun k e => by omega)⟩
/-- one weight is another -/
theorem GamX.setP {w : World} {gb g n cap : Nat} {F : Nat → Prop} {rv : Value} {r : GameD} (h : GamX w gb F (.slice (some ⟨g, 0, none⟩) n cap) rv r) (j : Nat) (y : Int) :
    GamX (w.setCell ⟨g, j, none⟩ (.int .i64 y)) gb F (.slice (some ⟨g, 0, none⟩) n cap) rv ⟨r.x, r.y, r.p.set j y, r.r⟩ ∧ KeptOff (fun k => gb ≤ k) w (w.setCell ⟨g, j, none⟩ (.int .i64 y)) := by
  obtain ⟨h1, h2⟩ := h.own.set j y
  have hs := keptOff_set w g j (.int .i64 y)
  have hg := OwnS.lt h.own g rfl
  exact ⟨⟨(hs.block gb h.lt (by omega)).trans h.box, h1, h.row.off hs fun k f e => h.dis k f (by subst e; rfl), h.dis⟩, hs.mono fun k e => by omega⟩
/-- a game that is read: its box, and the rest behind it -/
structure GamR (w : World) (gb : Nat) (wv rv : Value) (r : GameD) : Prop where
  box : w.heap[gb]? = some (.cells #[.int .i64 r.x, .int .i64 r.y, wv, rv] 46 (0, 0))
  p : IntsB w (gb + 1) wv r.p
  r : RowsB w (gb + 1) rv r.r
theorem GamX.rd {w : World} {gb : Nat} {F : Nat → Prop} {wv rv : Value} {r : GameD} (h : GamX w gb F wv rv r) : GamR w gb wv rv r := ⟨h.box, h.own.b, h.row.b⟩
theorem GamR.off {w w' : World} {gb : Nat} {G : Nat → Prop} {wv rv : Value} {r : GameD} (h : GamR w gb wv rv r) (hk : KeptOff G w w') (hG : ∀ k, G k → k < gb) : GamR w' gb wv rv r :=
  ⟨(hk.block gb (Array.getElem?_eq_some_iff.1 h.box).1 fun g => by have := hG _ g; omega).trans h.box, h.p.off hk fun k g => by have := hG k g; omega, h.r.off hk fun k g => by have := hG k g; omega⟩
theorem GamR.game {w : World} {gb : Nat} {wv rv : Value} {r : GameD} (h : GamR w gb wv rv r) : GameR w (.agg #[.int .i64 r.x, .int .i64 r.y, wv, rv]) r := ⟨wv, rv, rfl, h.p.1, h.r.rows⟩
theorem GamR.form {w : World} {gb : Nat} {wv rv : Value} {r : GameD} (h : GamR w gb wv rv r) : ∃ a k b m, wv = .slice a r.p.length k ∧ rv = .slice b r.r.length m := by
  obtain ⟨a, k, rfl, -⟩ := h.p.1.out
  obtain ⟨b, m, rfl, -⟩ := h.r.rows.out
  exact ⟨_, _, _, _, rfl, rfl⟩
/-- another field is laid -/
theorem GamR.setP {w : World} {gb : Nat} {wv rv v' : Value} {r : GameD} {ps : List Int} (h : GamR w gb wv rv r) (hp : IntsB w (gb + 1) v' ps) : GamR (w.setCell ⟨gb, 2, none⟩ v') gb v' rv ⟨r.x, r.y, ps, r.r⟩ :=
  ⟨(gam_cells h.box v').1, hp.off (keptOff_set w gb 2 v') fun k e => by omega, h.r.off (keptOff_set w gb 2 v') fun k e => by omega⟩
theorem GamR.setR {w : World} {gb : Nat} {wv rv v' : Value} {r : GameD} {rs : List (List Int)} (h : GamR w gb wv rv r) (hr : RowsB w (gb + 1) v' rs) : GamR (w.setCell ⟨gb, 3, none⟩ v') gb wv v' ⟨r.x, r.y, r.p, rs⟩ :=
  ⟨(gam_cells h.box v').2, h.p.off (keptOff_set w gb 3 v') fun k e => by omega, hr.off (keptOff_set w gb 3 v') fun k e => by omega⟩
/-- one row of the game is another -/
theorem GamX.setRow {w : World} {gb g n cap : Nat} {F : Nat → Prop} {wv : Value} {r : GameD} (h : GamX w gb F wv (.slice (some ⟨g, 0, none⟩) n cap) r) (j : Nat) (u : Value) (ys : List Int) (hu : IntsB w (gb + 1) u ys) (hne : ∀ k, u.ownBlock = some k → k ≠ g) :
    GamR (w.setCell ⟨g, j, none⟩ u) gb wv (.slice (some ⟨g, 0, none⟩) n cap) ⟨r.x, r.y, r.p, r.r.set j ys⟩ ∧ KeptOff (fun k => gb ≤ k) w (w.setCell ⟨g, j, none⟩ u) := by
  have hs := keptOff_set w g j u
  obtain ⟨vs, ho, -⟩ := h.row.outer
  have hg := (ho.lt g rfl).1
  have hF : F g := by obtain ⟨_, _, _, _, _, hf, _⟩ := h.row; exact hf g rfl
  exact ⟨⟨(hs.block gb h.lt (by omega)).trans h.box, (h.own.off hs fun k e f => h.dis g hF (by rw [← f]; exact e)).b, rowsB_set h.row (Nat.le_refl _) j u ys hu hne⟩, hs.mono fun k e => by omega⟩
/-- a game that is read, from blocks from lo on -/
def GameB (w : World) (lo : Nat) (v : Value) (r : GameD) : Prop := ∃ wv rv, v = .agg #[.int .i64 r.x, .int .i64 r.y, wv, rv] ∧ IntsB w lo wv r.p ∧ RowsB w lo rv r.r
theorem IntsB.mono {w : World} {lo lo' : Nat} {v : Value} {xs : List Int} (h : IntsB w lo v xs) (hl : lo' ≤ lo) : IntsB w lo' v xs := ⟨h.1, fun g e => Nat.le_trans hl (h.2 g e)⟩
theorem RowsB.mono {w : World} {lo lo' : Nat} {v : Value} {xss : List (List Int)} (h : RowsB w lo v xss) (hl : lo' ≤ lo) : RowsB w lo' v xss := by
  obtain ⟨vs, hs, hn, hr, hv, hvs⟩ := h
  exact ⟨vs, hs, hn, hr, fun g e => Nat.le_trans hl (hv g e), fun i h1 g e => Nat.le_trans hl (hvs i h1 g e)⟩
theorem GamR.gameB {w : World} {gb lo : Nat} {wv rv : Value} {r : GameD} (h : GamR w gb wv rv r) (hl : lo ≤ gb + 1) : GameB w lo (.agg #[.int .i64 r.x, .int .i64 r.y, wv, rv]) r := ⟨wv, rv, rfl, h.p.mono hl, h.r.mono hl⟩
theorem GameB.mono {w : World} {lo lo' : Nat} {v : Value} {r : GameD} (h : GameB w lo v r) (hl : lo' ≤ lo) : GameB w lo' v r := by
  obtain ⟨wv, rv, e, h1, h2⟩ := h
  exact ⟨wv, rv, e, h1.mono hl, h2.mono hl⟩
theorem GameB.off {w w' : World} {lo : Nat} {v : Value} {r : GameD} {G : Nat → Prop} (h : GameB w lo v r) (hk : KeptOff G w w') (hG : ∀ k, G k → k < lo) : GameB w' lo v r := by
  obtain ⟨wv, rv, e, h1, h2⟩ := h
  exact ⟨wv, rv, e, h1.off hk hG, h2.off hk hG⟩
theorem GameB.game {w : World} {lo : Nat} {v : Value} {r : GameD} (h : GameB w lo v r) : GameR w v r := by
  obtain ⟨wv, rv, e, h1, h2⟩ := h
  exact ⟨wv, rv, e, h1.1, h2.rows⟩
theorem GameB.form {w : World} {lo : Nat} {v : Value} {r : GameD} (h : GameB w lo v r) : ∃ a k b m, v = .agg #[.int .i64 r.x, .int .i64 r.y, .slice a r.p.length k, .slice b r.r.length m] := by
  obtain ⟨wv, rv, rfl, h1, h2⟩ := h
  obtain ⟨a, k, rfl, -⟩ := h1.1.out
  obtain ⟨b, m, rfl, -⟩ := h2.rows.out
  exact ⟨_, _, _, _, rfl⟩
end Go.Proofs.Ytpieaeokbblflaa
