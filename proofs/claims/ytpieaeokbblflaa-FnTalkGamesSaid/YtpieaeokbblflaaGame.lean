/- Games in memory, and the contracts of the laws' helpers on them; conditions: none. -/
import Derived.Test.YtpieaeokbblflaaLists
namespace Go.Proofs.Ytpieaeokbblflaa
open Go.RowKit

/-- a block of four cells -/
theorem blk4 {w : World} {b : Nat} {v1 v2 v3 v4 : Value} {t : TypeId} (h : w.heap[b]? = some (.cells #[v1, v2, v3, v4] t (0, 0))) :
    (w.cell? ⟨b, 0, none⟩ = some v1 ∧ w.cell? ⟨b, 1, none⟩ = some v2 ∧ w.cell? ⟨b, 2, none⟩ = some v3 ∧ w.cell? ⟨b, 3, none⟩ = some v4) ∧ (w.frozen? ⟨b, 0, none⟩ = false ∧ w.frozen? ⟨b, 1, none⟩ = false ∧ w.frozen? ⟨b, 2, none⟩ = false ∧ w.frozen? ⟨b, 3, none⟩ = false) := by
  refine ⟨⟨?_, ?_, ?_, ?_⟩, ?_, ?_, ?_, ?_⟩ <;> simp [World.cell?, World.frozen?, h]

structure GameD where
  x : Int
  y : Int
  p : List Int
  r : List (List Int)

/-- the value reads as that -/
def GameR (w : World) (v : Value) (r : GameD) : Prop := ∃ v2 v3, v = .agg #[.int .i64 r.x, .int .i64 r.y, v2, v3] ∧ Ints w v2 r.p ∧ Rows2 w v3 r.r
theorem GameR.below {w w' : World} {v : Value} {r : GameD} (h : GameR w v r) (hb : Below w.heap.size w w') : GameR w' v r := by
  obtain ⟨v2, v3, e, h2, h3⟩ := h
  exact ⟨v2, v3, e, h2.below hb, h3.below hb⟩
theorem GameR.form {w : World} {v : Value} {r : GameD} (h : GameR w v r) : ∃ a2 k2 a3 k3, v = .agg #[.int .i64 r.x, .int .i64 r.y, .slice a2 r.p.length k2, .slice a3 r.r.length k3] := by
  obtain ⟨v2, v3, rfl, h2, h3⟩ := h
  obtain ⟨a2, k2, rfl, -⟩ := h2.out
  obtain ⟨a3, k3, rfl, -⟩ := h3.out
  exact ⟨_, _, _, _, rfl⟩
/-- .. in blocks of the call's own, no two parts in one block -/
def OwnG (w : World) (B : Nat) (F : Nat → Prop) (v : Value) (r : GameD) : Prop :=
  ∃ v2 v3, v = .agg #[.int .i64 r.x, .int .i64 r.y, v2, v3] ∧ ∃ F2 F3 : Nat → Prop, OwnF w B F2 v2 r.p ∧ OwnQ w B F3 v3 r.r ∧ (∀ k, F2 k → F k) ∧ (∀ k, F3 k → F k) ∧ (∀ k, F2 k → ¬ F3 k)
theorem OwnG.rd {w : World} {B : Nat} {F : Nat → Prop} {v : Value} {r : GameD} (h : OwnG w B F v r) : GameR w v r := by
  obtain ⟨v2, v3, e, F2, F3, h2, h3, -⟩ := h
  exact ⟨v2, v3, e, h2.rd, h3.rd⟩
theorem OwnG.below {w' : World} {w : World} {B : Nat} {F : Nat → Prop} {v : Value} {r : GameD} (h : OwnG w B F v r) (hb : Below w.heap.size w w') : OwnG w' B F v r := by
  obtain ⟨v2, v3, e, F2, F3, h2, h3, hh⟩ := h
  exact ⟨v2, v3, e, F2, F3, h2.below hb, h3.below hb, hh⟩
theorem OwnG.mono {B' : Nat} {w : World} {B : Nat} {F : Nat → Prop} {v : Value} {r : GameD} (h : OwnG w B F v r) (hB : B' ≤ B) {G : Nat → Prop} (hG : ∀ k, F k → G k) : OwnG w B' G v r := by
  obtain ⟨v2, v3, e, F2, F3, h2, h3, i2, i3, hh⟩ := h
  exact ⟨v2, v3, e, F2, F3, h2.mono hB, h3.mono hB, fun k hk => hG k (i2 k hk), fun k hk => hG k (i3 k hk), hh⟩
theorem OwnG.off {w' : World} {G : Nat → Prop} {w : World} {B : Nat} {F : Nat → Prop} {v : Value} {r : GameD} (h : OwnG w B F v r) (hk : KeptOff G w w') (hd : ∀ k, F k → ¬ G k) : OwnG w' B F v r := by
  obtain ⟨v2, v3, e, F2, F3, h2, h3, i2, i3, hh⟩ := h
  exact ⟨v2, v3, e, F2, F3, h2.off hk fun k hk => hd k (i2 k hk), h3.off hk fun k hk => hd k (i3 k hk), i2, i3, hh⟩
def totG (r : GameD) : Nat := r.p.length + totR r.r
theorem OwnG.tot {w : World} {B : Nat} {F : Nat → Prop} {v : Value} {r : GameD} (h : OwnG w B F v r) : r.p.length ≤ 1099511627776 ∧ r.r.length + totR r.r ≤ 1099511627776 := by
  obtain ⟨v2, v3, e, F2, F3, h2, h3, -⟩ := h
  exact ⟨h2.tot, h3.tot⟩
theorem totG_le {r : GameD} (h : r.p.length ≤ 1099511627776 ∧ r.r.length + totR r.r ≤ 1099511627776) : totG r ≤ 4398046511104 := by unfold totG; omega

def marksG (k : Int) (r : GameD) : GameD := ⟨r.x, r.y, marks (k) r.p.length, marksR (k + (r.p.length : Int)) r.r⟩

end Go.Proofs.Ytpieaeokbblflaa
