/- A scene with an event flipped; conditions: none. -/
import Derived.Test.YtiidphlfpiaoeaaLift
namespace Go.Proofs.Ytiidphlfpiaoeaa
open Go.RowKit

def hasL (l : List Int) (n : Int) : Bool := l.contains n
def hasE (s : SceneD) (ev : Int) (i : Nat) : Bool := hasL (s.c.getD i []) ev
/-- the sums, flipped up to k -/
def flipS (s : SceneD) (ev : Int) (k : Nat) : List Int := mapR (fun i => if i < k ∧ hasE s ev i = true then 1 - s.s.getD i 0 else s.s.getD i 0) s.s.length
def okE (s : SceneD) (ev : Int) : Bool := sceneB s && inB 0 (s.n - 1) ev
def flipD (s : SceneD) (ev : Int) : SceneD := if okE s ev then ⟨s.n, s.c, flipS s ev s.s.length⟩ else ⟨0, [], []⟩
theorem flipS_at (s : SceneD) (ev : Int) (k i : Nat) (hi : i < (flipS s ev k).length) : (flipS s ev k)[i] = if i < k ∧ hasE s ev i = true then 1 - s.s.getD i 0 else s.s.getD i 0 := mapR_get _ _ _ hi
theorem flipS_len (s : SceneD) (ev : Int) (k : Nat) : (flipS s ev k).length = s.s.length := mapR_len _ _
theorem flipS_zero (s : SceneD) (ev : Int) : flipS s ev 0 = s.s := by
  refine List.ext_getElem (by rw [flipS_len]) fun i h1 h2 => ?_
  rw [flipS_at]
  simp [List.getD, h2]
theorem flipS_get (s : SceneD) (ev : Int) (k : Nat) (hk : k < (flipS s ev k).length) (hk2 : k < s.s.length) : (flipS s ev k)[k] = s.s[k] := by
  rw [flipS_at]
  simp [List.getD, hk2]
theorem flipS_no {s : SceneD} {ev : Int} {k : Nat} (h : hasE s ev k = false) : flipS s ev (k + 1) = flipS s ev k := by
  unfold flipS
  refine mapR_congr fun i _ => ?_
  by_cases e : i = k
  · subst e; simp [h]
  · have : (i < k + 1) ↔ (i < k) := by omega
    simp [this]
theorem flipS_yes {s : SceneD} {ev : Int} {k : Nat} (h : hasE s ev k = true) (hk : k < s.s.length) : flipS s ev (k + 1) = (flipS s ev k).set k (1 - s.s[k]) := by
  refine List.ext_getElem (by simp [flipS_len]) fun i h1 h2 => ?_
  rw [List.getElem_set, flipS_at, flipS_at]
  have hi : i < s.s.length := by simpa [flipS_len] using h1
  by_cases e : k = i
  · subst e; simp [h, List.getD, hk]
  · have : (i < k + 1) ↔ (i < k) := by omega
    simp [this, e]
theorem ownC_nil (w : World) (B : Nat) (F : Nat → Prop) : OwnC w B F (.agg #[.int .i64 0, .slice none 0 0, .slice none 0 0]) ⟨0, [], []⟩ :=
  ⟨_, _, rfl, fun _ => False, fun _ => False, ⟨ownR_nil _ _ _, by simp [totR]⟩, ⟨own_nil _ _, by simp, fun g h => by simp [Value.ownBlock] at h⟩, fun _ h => h.elim, fun _ h => h.elim, fun _ h => h.elim⟩

theorem c_l1Has (v : Value) (l : List Int) (n : Int) (w : World) (h : Ints w v l) :
    Calls Try.prog 98 #[v, .int .i64 n] w fun e w' => e = .returned (.bool (hasL l n)) ∧ w = w' := by
  obtain ⟨ad, cap, rfl, hl, -⟩ := h.out
  go_enter Try.func98, Try.ntmps98
  go_wp2
  go_loop [5] (fun i => ∃ k : Nat, k ≤ l.length ∧ i = .int .i64 k ∧ Hid ((l.take k).contains n = false)) (fun i => l.length - (intOf i).toNat)
  case atStart => exact ⟨0, Nat.zero_le _, rfl, Lib.hid rfl⟩
  case round =>
    obtain ⟨k, hk, rfl, HA⟩ := hrel
    by_cases hlt : k < l.length
    · obtain ⟨bl, off, rfl, hb, hcell⟩ := h.at k hlt
      cases hx : (l[k] == n)
      · have hF : Hid ((l.take (k + 1)).contains n = false) := Lib.hid (by
          rw [List.take_succ_eq_append_getElem hlt]
          have h1 := HA.out
          have h2 : ¬ n = l[k] := fun e => by simp [e] at hx
          simp only [List.contains_eq_mem, List.mem_append, List.mem_singleton, decide_eq_false_iff_not] at h1 ⊢
          exact fun h => h.elim h1 h2)
        go_wp2
        go_round
        case rel => exact ⟨k + 1, by omega, by go_num, hF⟩
        case measure => simp [intOf]; omega
      · have hF : Hid (hasL l n = true) := Lib.hid (by
          have h2 : l[k] = n := by simpa using hx
          unfold hasL; rw [List.contains_iff_mem, ← h2]
          exact List.getElem_mem hlt)
        go_wp2
        go_ret
        exact ⟨by rw [hF.out]; rfl, rfl⟩
    · obtain rfl : k = l.length := by omega
      have hF : Hid (hasL l n = false) := Lib.hid (by have := HA.out; rw [List.take_length] at this; exact this)
      go_wp2
      go_ret
      exact ⟨by rw [hF.out]; rfl, rfl⟩

theorem c_Index (v : Value) (l : List Int) (n : Int) (w : World) (h : Ints w v l) :
    Calls Try.prog 109 #[v, .int .i64 n] w fun e w' => (∃ q : Int, e = .returned (.int .i64 q) ∧ Hid (decide (q ≥ 0) = hasL l n)) ∧ w = w' := by
  obtain ⟨ad, cap, rfl, hl, -⟩ := h.out
  go_enter Try.func109, Try.ntmps109
  go_wp2
  go_loop [8] (fun i => ∃ k : Nat, k ≤ l.length ∧ i = .int .i64 k ∧ Hid ((l.take k).contains n = false)) (fun i => l.length - (intOf i).toNat)
  case atStart => exact ⟨0, Nat.zero_le _, rfl, Lib.hid rfl⟩
  case round =>
    obtain ⟨k, hk, rfl, HA⟩ := hrel
    by_cases hlt : k < l.length
    · obtain ⟨bl, off, rfl, hb, hcell⟩ := h.at k hlt
      cases hx : (n == l[k])
      · have hF : Hid ((l.take (k + 1)).contains n = false) := Lib.hid (by
          rw [List.take_succ_eq_append_getElem hlt]
          have h1 := HA.out
          have h2 : ¬ n = l[k] := fun e => by simp [e] at hx
          simp only [List.contains_eq_mem, List.mem_append, List.mem_singleton, decide_eq_false_iff_not] at h1 ⊢
          exact fun h => h.elim h1 h2)
        go_wp2
        go_round
        case rel => exact ⟨k + 1, by omega, by go_num, hF⟩
        case measure => simp [intOf]; omega
      · have hF : Hid (hasL l n = true) := Lib.hid (by
          have h2 : n = l[k] := by simpa using hx
          unfold hasL; rw [List.contains_iff_mem, h2]
          exact List.getElem_mem hlt)
        go_wp2
        go_ret
        exact ⟨⟨_, rfl, Lib.hid (by rw [hF.out]; simp)⟩, rfl⟩
    · obtain rfl : k = l.length := by omega
      have hF : Hid (hasL l n = false) := Lib.hid (by have := HA.out; rw [List.take_length] at this; exact this)
      go_wp2
      go_ret
      exact ⟨⟨_, rfl, Lib.hid (by rw [hF.out]; rfl)⟩, rfl⟩
theorem c_Contains (v : Value) (l : List Int) (n : Int) (w : World) (h : Ints w v l) :
    Calls Try.prog 96 #[v, .int .i64 n] w fun e w' => e = .returned (.bool (hasL l n)) ∧ w = w' := by
  go_enter Try.func96, Try.ntmps96
  go_wp2_with fail
  refine (c_Index v l n _ h).mono ?_
  rintro e _ ⟨⟨q, rfl, hq⟩, rfl⟩
  go_wp2
  go_ret
  exact ⟨by rw [← hq.out]; rfl, rfl⟩

/-- the flipped scene in memory: the block bo holds it, its parts lie in F1 and F2 -/
def FlipV (B bo hi : Nat) (F1 F2 : Nat → Prop) (bx : Obj) (n : Int) (vr vs : Value) (c : List (List Int)) (t : List Int) (w wr : World) : Prop :=
  (wr.heap[bo]? = some (.cells #[.int .i64 n, vr, vs] 27 (0, 0)) ∧ wr.heap[B]? = some bx ∧ wr.heap[B + 1]? = some (.cells #[.int .i64 0, .slice none 0 0, .slice none 0 0] 27 (0, 0))) ∧
  (OwnR wr B F1 vr c ∧ OwnF wr B F2 vs t ∧ Below B w wr ∧ hi ≤ wr.heap.size) ∧
  ((∀ k, F1 k → ¬ F2 k) ∧ ¬ F1 bo ∧ ¬ F2 bo ∧ (∀ k, F1 k → B + 1 < k ∧ k < hi) ∧ (∀ k, F2 k → B + 1 < k ∧ k < hi) ∧ B + 1 < bo ∧ bo < hi)
theorem FlipV.below {B bo hi : Nat} {F1 F2 : Nat → Prop} {bx : Obj} {n : Int} {vr vs : Value} {c : List (List Int)} {t : List Int} {w wr ww : World} (h : FlipV B bo hi F1 F2 bx n vr vs c t w wr) (hb : Below wr.heap.size wr ww) : FlipV B bo hi F1 F2 bx n vr vs c t w ww := by
  obtain ⟨⟨p1, p2, p3⟩, ⟨o1, o2, hB, hh⟩, hd⟩ := h
  have hz := hb.size
  exact ⟨⟨blk_later hb p1, blk_later hb p2, blk_later hb p3⟩, ⟨o1.below hb, o2.below hb, hB.trans (hb.mono (by have := (Array.getElem?_eq_some_iff.1 p2).1; omega)), by omega⟩, hd⟩
theorem FlipV.set {B bo hi g m cap : Nat} {F1 F2 : Nat → Prop} {bx : Obj} {n : Int} {vr : Value} {c : List (List Int)} {t : List Int} {w wr : World} (h : FlipV B bo hi F1 F2 bx n vr (.slice (some ⟨g, 0, none⟩) m cap) c t w wr) (j : Nat) (y : Int) :
    FlipV B bo hi F1 F2 bx n vr (.slice (some ⟨g, 0, none⟩) m cap) c (t.set j y) w (wr.setCell ⟨g, j, none⟩ (.int .i64 y)) := by
  obtain ⟨⟨p1, p2, p3⟩, ⟨o1, o2, hB, hh⟩, hd⟩ := h
  obtain ⟨d1, d2, d3, d4, d5, d6, d7⟩ := id hd
  have hg : F2 g := o2.2.2 g rfl
  have hgb := d5 g hg
  have hk := keptOff_set wr g j (.int .i64 y)
  have hB1 : B < wr.heap.size := (Array.getElem?_eq_some_iff.1 p2).1
  refine ⟨⟨blk_other p1 (fun e => d3 (e ▸ hg)), blk_other p2 (by omega), blk_other p3 (by omega)⟩, ⟨o1.off hk (fun k a b => d1 k a (b ▸ hg)), ⟨(o2.1.set j y).1, by simpa using o2.2.1, o2.2.2⟩, hB.trans (hk.below (fun k e => by omega) (by omega)), by simpa using hh⟩, hd⟩
theorem FlipV.done {B bo hi : Nat} {F1 F2 : Nat → Prop} {bx : Obj} {n : Int} {vr vs : Value} {c : List (List Int)} {t : List Int} {w wr w' : World} (h : FlipV B bo hi F1 F2 bx n vr vs c t w wr) (hc : c.length + totR c ≤ 1099511627776) (hk : KeptOff (fun k => k = B + 1) wr w') :
    OwnC w' B (fun k => B ≤ k ∧ k < w'.heap.size) (.agg #[.int .i64 n, vr, vs]) ⟨n, c, t⟩ ∧ Below B w w' := by
  obtain ⟨⟨p1, p2, p3⟩, ⟨o1, o2, hB, hh⟩, hd⟩ := h
  obtain ⟨d1, d2, d3, d4, d5, d6, d7⟩ := id hd
  have hB1 : B < wr.heap.size := (Array.getElem?_eq_some_iff.1 p2).1
  have hs := hk.size
  refine ⟨⟨vr, vs, rfl, F1, F2, ⟨o1.off hk (fun k a b => by have := d4 k a; omega), hc⟩, o2.off hk (fun k a b => by have := d5 k a; omega), fun k a => ?_, fun k a => ?_, d1⟩, hB.trans (hk.below (fun k e => by omega) (by omega))⟩
  · have := d4 k a; omega
  · have := d5 k a; omega
end Go.Proofs.Ytiidphlfpiaoeaa
