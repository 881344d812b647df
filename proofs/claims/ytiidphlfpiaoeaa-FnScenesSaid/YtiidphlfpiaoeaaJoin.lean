/- Two scenes joined: what it gives, and what the regions that make it keep; conditions: none. -/
import Derived.Test.YtiidphlfpiaoeaaFlipEv
import Derived.Test.YtiidphlfpiaoeaaFreeC
namespace Go.Proofs.Ytiidphlfpiaoeaa
open Go.RowKit

def joinV (a b : SceneD) : SceneD := ⟨a.n + b.n, addL 0 a.c ++ addL a.n b.c, a.s ++ b.s⟩
def joinOk (a b : SceneD) : Bool := sceneB a && (sceneB b && sceneB (joinV a b))
def joinD (a b : SceneD) : SceneD := if joinOk a b then joinV a b else ⟨0, [], []⟩
theorem joinD_yes {a b : SceneD} (h : joinOk a b = true) : joinD a b = joinV a b := by simp [joinD, h]
theorem joinD_no {a b : SceneD} (h : joinOk a b = false) : joinD a b = ⟨0, [], []⟩ := by simp [joinD, h]

/-- append(out, rows...), rows of the call's own -/
theorem wp_append_rowsO {ops : Array Oper} {rest : List Oper} {o : Oper} {a : Act} {Q : Exit → Act → World → Prop} (w : World) (hgd : o.guard = none) (s x : Operand)
    (ho : o.op = .call { callee := .builtin .append, args := #[s, x], argTypes := #[22, 22] }) (B : Nat) (F F2 : Nat → Prop) (v : Value) (xss : List (List Int)) (hs : a.eval s = v) (hown : OwnR w B F v xss)
    (u : Value) (yss : List (List Int)) (hx : a.eval x = u) (hown2 : OwnR w B F2 u yss) (hdis : ∀ k, F k → ¬ F2 k)
    (hlen : xss.length + yss.length ≤ 1099511627776) (hB : B ≤ w.heap.size)
    (h : ∀ v' w', OwnR w' B (fun k => B ≤ k ∧ k < w'.heap.size) v' (xss ++ yss) → w.grownBy w' v.ownBlock → wpList Try.prog ops Q rest (a.put o.dst v') w') :
    wpList Try.prog ops Q (o :: rest) a w := by
  obtain ⟨vs2, hvs2, hn2, hrs2, hdd2, hf2, hfs2⟩ := id hown2
  by_cases h0 : 0 < yss.length
  · refine wp_append_rowsG w hgd s x ho B F F2 v xss hs hown u vs2 yss hx hvs2.sl (by omega) hn2 hrs2 hdd2 hfs2 hdis hlen hB fun v' w' h1 h2 _ => h v' w' ?_ h2
    exact (h1 (fun _ => True) (fun _ _ => trivial) (fun _ _ => trivial) (fun _ _ _ => trivial)).isIn
  · have he : yss = [] := List.length_eq_zero_iff.1 (by omega)
    subst he
    have hv2 : vs2 = [] := List.length_eq_zero_iff.1 (by simpa using hn2)
    subst hv2
    obtain ⟨vs, hvs, hn, hrs, hdd, hf, hfs⟩ := id hown
    obtain ⟨i0, hi, hz0, hz1, hz2⟩ := info_parts info_row
    obtain ⟨ad, cap, rfl, hl, -⟩ := hvs2.sl
    cases ad with
    | none =>
      refine wp_append_nothing hgd s x 22 ho B 23 i0 1 Try.underlying22 hi v vs.length cap vs hs hvs.1 (by simpa using hx) ?_
      exact h v w (by simpa using hown.isIn) ⟨rfl, rfl, rfl, Nat.le_refl _, fun _ _ _ => rfl⟩
    | some ad =>
      refine wpList_append_own _ hgd s x 22 ho B 23 i0 (.slice none 0 0) 1 24 Try.underlying22 hi hz0 hz1 hz2 rfl (by decide) v vs.length vs hs hvs.1 ad 0 cap [] hx (by simp) (fun j u hu => by simp at hu) (fun u hu => by simp at hu)
        (by unfold maxLen; omega) (by omega) (by omega) fun v' w' h1 hgr h3 => ?_
      have krs : ∀ i (h1 : i < vs.length) (h2 : i < xss.length), OwnI w' B vs[i] xss[i] := fun i h1 h2 => (hrs i h1 h2).grown hgr fun g e e' => OwnS.apart (hrs i h1 h2) hvs (by decide) e e'
      have hown3 : OwnS w' B 23 v' vs := ⟨by simpa using h1, by omega⟩
      refine h v' w' ?_ hgr
      rw [List.append_nil]
      exact OwnR.isIn (F := fun _ => True) ⟨vs, hown3, hn, krs, hdd, fun _ _ => trivial, fun _ _ _ _ => trivial⟩

/-- blocks of a type are as they were -/
def KeepT (t : TypeId) (w w' : World) : Prop := ∀ (b : Nat) (c : Array Value) (f : Nat × Nat), w.heap[b]? = some (.cells c t f) → w'.heap[b]? = some (.cells c t f)
theorem keepT_below {t : TypeId} {w w' : World} (h : Below w.heap.size w w') : KeepT t w w' := fun _ _ _ e => blk_later h e
theorem keepT_grown {t E : TypeId} {w w' : World} {B : Nat} {v : Value} {us : List Value} (h : w.grownBy w' v.ownBlock) (ho : OwnS w B E v us) (hne : E ≠ t) : KeepT t w w' := fun b c f e => by
  refine (h.block b (Array.getElem?_eq_some_iff.1 e).1 fun e2 => ?_).trans e
  obtain ⟨c', hc'⟩ := ho.block e2.symm
  rw [e] at hc'
  simp at hc'
  exact hne hc'.2.1.symm
theorem keepT_refl {t : TypeId} (w : World) : KeepT t w w := fun _ _ _ e => e
theorem totR_cat (a b : List (List Int)) : totR (a ++ b) = totR a + totR b := by simp [totR]
theorem joinV_tot {a b : SceneD} (ha : a.c.length + totR a.c ≤ 1000) (hb : b.c.length + totR b.c ≤ 1000) : (joinV a b).c.length + totR (joinV a b).c ≤ 1099511627776 := by
  simp only [joinV, List.length_append, totR_cat, addL_len, addL_tot]
  omega
/-- own numbers stay where a scene's box is written -/
theorem own_setT {w w' : World} {B bo : Nat} {E t : TypeId} {v : Value} {us : List Value} {c : Array Value} {f : Nat × Nat} (h : OwnS w B E v us) (hp : w.heap[bo]? = some (.cells c t f)) (hne : E ≠ t) (hk : KeptOff (fun k => k = bo) w w') : OwnS w' B E v us :=
  h.off hk fun g e f => by
    subst f
    obtain ⟨c', hc'⟩ := h.block e
    rw [hp] at hc'
    simp at hc'
    exact hne hc'.2.1.symm
theorem ownR_setT {w w' : World} {B bo : Nat} {F : Nat → Prop} {v : Value} {xss : List (List Int)} {c : Array Value} {f : Nat × Nat} (h : OwnR w B F v xss) (hp : w.heap[bo]? = some (.cells c 27 f)) (hk : KeptOff (fun k => k = bo) w w') : OwnR w' B F v xss := by
  obtain ⟨vs, hs, hn, hr, hd⟩ := h
  exact ⟨vs, own_setT hs hp (by decide) hk, hn, fun i h1 h2 => own_setT (hr i h1 h2) hp (by decide) hk, hd⟩
/-- a scene out of its parts -/
theorem ownC_parts {w : World} {B M : Nat} {v1 v2 : Value} {n : Int} {c : List (List Int)} {s : List Int} (h1 : OwnR w B (fun k => M ≤ k ∧ k < w.heap.size) v1 c) (h2 : OwnI w B v2 s) (hM : ∀ g, v2.ownBlock = some g → g < M) (hBM : B ≤ M) (ht : c.length + totR c ≤ 1099511627776) (hs : s.length ≤ 1099511627776) :
    OwnC w B (fun k => B ≤ k ∧ k < w.heap.size) (.agg #[.int .i64 n, v1, v2]) ⟨n, c, s⟩ :=
  ⟨v1, v2, rfl, fun k => M ≤ k ∧ k < w.heap.size, fun k => B ≤ k ∧ k < w.heap.size ∧ k < M, ⟨h1, ht⟩, ⟨h2, hs, fun g e => ⟨(OwnS.lt h2 g e).1, (OwnS.lt h2 g e).2, hM g e⟩⟩, fun k h => ⟨by omega, h.2⟩, fun k h => ⟨h.1, h.2.1⟩, fun k h h' => by omega⟩
theorem SceneR.parts {w : World} {n : Int} {v1 v2 : Value} {r : SceneD} (h : SceneR w (.agg #[.int .i64 n, v1, v2]) r) : Rows2 w v1 r.c ∧ Ints w v2 r.s := by
  obtain ⟨x, y, e, h1, h2⟩ := h
  simp only [Value.agg.injEq] at e
  have e2 := congrArg Array.toList e
  simp at e2
  obtain ⟨-, rfl, rfl⟩ := e2
  exact ⟨h1, h2⟩
/-- .. the numbers behind the rows -/
theorem ownC_parts2 {w : World} {B M : Nat} {v1 v2 : Value} {n : Int} {c : List (List Int)} {s : List Int} (h1 : OwnR w B (fun k => B ≤ k ∧ k < M) v1 c) (h2 : OwnI w M v2 s) (hBM : B ≤ M) (ht : c.length + totR c ≤ 1099511627776) (hs : s.length ≤ 1099511627776) :
    OwnC w B (fun k => B ≤ k ∧ k < w.heap.size) (.agg #[.int .i64 n, v1, v2]) ⟨n, c, s⟩ := by
  have h1' : OwnR w B (fun k => (B ≤ k ∧ k < M) ∧ B ≤ k ∧ k < w.heap.size) v1 c := by
    obtain ⟨vs, hs, hn, hr, hd, hf, hg⟩ := h1
    exact ⟨vs, hs, hn, hr, hd, fun g e => ⟨hf g e, hs.lt g e⟩, fun i h1 g e => ⟨hg i h1 g e, OwnS.lt (hr i h1 (by omega)) g e⟩⟩
  exact ⟨v1, v2, rfl, fun k => (B ≤ k ∧ k < M) ∧ B ≤ k ∧ k < w.heap.size, fun k => M ≤ k ∧ k < w.heap.size, ⟨h1', ht⟩, ⟨h2.mono hBM, hs, fun g e => OwnS.lt h2 g e⟩, fun k h => h.2, fun k h => ⟨by omega, h.2⟩, fun k h h' => by omega⟩
end Go.Proofs.Ytiidphlfpiaoeaa
