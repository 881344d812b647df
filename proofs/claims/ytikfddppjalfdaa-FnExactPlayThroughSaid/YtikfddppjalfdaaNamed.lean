/- The contracts of NamedRule and SumRuleBy on both sides; conditions: none. -/
import Derived.Test.YtikfddppjalfdaaRuleMake
namespace Go.Proofs.Ytikfddppjalfdaa
open Go.RowKit

theorem RuleR.shape {w : World} {v : Value} {r : RuleD} (h : RuleR w v r) : ∃ a1 n1 k1 a2 n2 k2 a3 n3 k3, v = .agg #[.slice a1 n1 k1, .slice a2 n2 k2, .slice a3 n3 k3] := by
  obtain ⟨a1, k1, a2, k2, a3, k3, e⟩ := h.form
  exact ⟨_, _, _, _, _, _, _, _, _, e⟩
theorem ownU_nil (w : World) (B : Nat) (F : Nat → Prop) : OwnU w B F (.agg #[.slice none 0 0, .slice none 0 0, .slice none 0 0]) ⟨[], [], []⟩ := by
  refine ⟨_, _, _, rfl, fun _ => False, fun _ => False, fun _ => False, ⟨own_nil _ _, by simp, fun g h => by simp [Value.ownBlock] at h⟩, ⟨(ownR_nil _ _ _).mono (Nat.le_refl _) (fun _ h => h), by simp [totR]⟩, ⟨(ownR_nil _ _ _).mono (Nat.le_refl _) (fun _ h => h), by simp [totR]⟩, ?_⟩
  simp

def namedSay (n : Int) : List Int := if n = 1 then [0, 0, 1, 1] else if n = 2 then [0, 1, 0, 1] else [0, 1, 1, 0]
def namedU (n : Int) : RuleD := if inB 1 3 n then madeU 0 0 1 1 (namedSay n) else ⟨[], [], []⟩


theorem c_l10Named (n : Int) (hn : inB 1 3 n = true) (w : World) :
    Calls Try.prog 66 #[.int .i64 n] w fun e w' => ∃ v', e = .returned v' ∧ OwnU w' w.heap.size (fun k => w.heap.size ≤ k ∧ k < w'.heap.size) v' (madeU 0 0 1 1 (namedSay n)) ∧ Below w.heap.size w w' := by
  have hb := inB_iff.1 hn
  have hn' : n = 1 ∨ n = 2 ∨ n = 3 := by omega
  clear hb hn
  rcases hn' with rfl | rfl | rfl
  · go_enter Try.func66, Try.ntmps66
    go_wp2_with fail
    refine (c_l10Made _ _ 0 0 1 1 [0, 0, 1, 1] _ (blk_ints (xs := [0, 0, 1, 1]) (by repeat (first | (refine heap_alloc_at ?_; simp; done) | (refine (heap_alloc_old _ _ ?_).trans ?_; · (simp <;> omega)))) rfl (by simp)) (blk_ints (xs := [0, 0, 1, 1]) (by repeat (first | (refine heap_alloc_at ?_; simp; done) | (refine (heap_alloc_old _ _ ?_).trans ?_; · (simp <;> omega)))) rfl (by simp)) (by simp) (by simp)).mono ?_
    rintro e w1 ⟨v, rfl, hv, hb⟩
    obtain ⟨v1, n1, k1, v2, n2, k2, v3, n3, k3, rfl⟩ := hv.rd.shape
    have p0 : w1.heap[w.heap.size]? = some (.cells #[.slice none 0 0, .slice none 0 0, .slice none 0 0] 25 (0, 0)) := blk_later hb (by repeat (first | (refine heap_alloc_at ?_; simp; done) | (refine (heap_alloc_old _ _ ?_).trans ?_; · (simp <;> omega))))
    obtain ⟨⟨c0, c1, c2⟩, f0, f1, f2⟩ := blk3 p0
    obtain ⟨⟨q0, q1, q2⟩, hk⟩ := stored3 p0 (.slice v1 n1 k1) (.slice v2 n2 k2) (.slice v3 n3 k3)
    have hz := hb.size
    have hB : Below w.heap.size w w1 := Below.trans (by repeat (first | exact Below.refl _ _ | refine Below.alloc ?_ (by simp <;> omega) _)) (hb.mono (by simp <;> omega))
    simp only [World.size_alloc] at hz hv
    replace hz := Lib.hid hz
    replace hv := Lib.hid hv
    replace q0 := Lib.hid q0
    replace q1 := Lib.hid q1
    replace q2 := Lib.hid q2
    go_wp2
    refine bodyPost_ret (v := .agg #[.slice v1 n1 k1, .slice v2 n2 k2, .slice v3 n3 k3]) (by simp [results, Try.results66, go_sem, q0.out, q1.out, q2.out]) rfl ⟨_, rfl, ?_, hB.trans (hk.below (fun k h => by omega) (by have := hz.out; omega))⟩
    have hz2 := hk.size
    have hz3 := hz.out
    exact (hv.out.off hk (fun k h1 h2 => by have := h1.1; omega)).mono (by omega) (fun k h => ⟨by have := h.1; omega, by have := h.2; omega⟩)
  · go_enter Try.func66, Try.ntmps66
    go_wp2_with fail
    refine (c_l10Made _ _ 0 0 1 1 [0, 1, 0, 1] _ (blk_ints (xs := [0, 0, 1, 1]) (by repeat (first | (refine heap_alloc_at ?_; simp; done) | (refine (heap_alloc_old _ _ ?_).trans ?_; · (simp <;> omega)))) rfl (by simp)) (blk_ints (xs := [0, 1, 0, 1]) (by repeat (first | (refine heap_alloc_at ?_; simp; done) | (refine (heap_alloc_old _ _ ?_).trans ?_; · (simp <;> omega)))) rfl (by simp)) (by simp) (by simp)).mono ?_
    rintro e w1 ⟨v, rfl, hv, hb⟩
    obtain ⟨v1, n1, k1, v2, n2, k2, v3, n3, k3, rfl⟩ := hv.rd.shape
    have p0 : w1.heap[w.heap.size]? = some (.cells #[.slice none 0 0, .slice none 0 0, .slice none 0 0] 25 (0, 0)) := blk_later hb (by repeat (first | (refine heap_alloc_at ?_; simp; done) | (refine (heap_alloc_old _ _ ?_).trans ?_; · (simp <;> omega))))
    obtain ⟨⟨c0, c1, c2⟩, f0, f1, f2⟩ := blk3 p0
    obtain ⟨⟨q0, q1, q2⟩, hk⟩ := stored3 p0 (.slice v1 n1 k1) (.slice v2 n2 k2) (.slice v3 n3 k3)
    have hz := hb.size
    have hB : Below w.heap.size w w1 := Below.trans (by repeat (first | exact Below.refl _ _ | refine Below.alloc ?_ (by simp <;> omega) _)) (hb.mono (by simp <;> omega))
    simp only [World.size_alloc] at hz hv
    replace hz := Lib.hid hz
    replace hv := Lib.hid hv
    replace q0 := Lib.hid q0
    replace q1 := Lib.hid q1
    replace q2 := Lib.hid q2
    go_wp2
    refine bodyPost_ret (v := .agg #[.slice v1 n1 k1, .slice v2 n2 k2, .slice v3 n3 k3]) (by simp [results, Try.results66, go_sem, q0.out, q1.out, q2.out]) rfl ⟨_, rfl, ?_, hB.trans (hk.below (fun k h => by omega) (by have := hz.out; omega))⟩
    have hz2 := hk.size
    have hz3 := hz.out
    exact (hv.out.off hk (fun k h1 h2 => by have := h1.1; omega)).mono (by omega) (fun k h => ⟨by have := h.1; omega, by have := h.2; omega⟩)
  · go_enter Try.func66, Try.ntmps66
    go_wp2_with fail
    refine (c_l10Made _ _ 0 0 1 1 [0, 1, 1, 0] _ (blk_ints (xs := [0, 0, 1, 1]) (by repeat (first | (refine heap_alloc_at ?_; simp; done) | (refine (heap_alloc_old _ _ ?_).trans ?_; · (simp <;> omega)))) rfl (by simp)) (blk_ints (xs := [0, 1, 1, 0]) (by repeat (first | (refine heap_alloc_at ?_; simp; done) | (refine (heap_alloc_old _ _ ?_).trans ?_; · (simp <;> omega)))) rfl (by simp)) (by simp) (by simp)).mono ?_
    rintro e w1 ⟨v, rfl, hv, hb⟩
    obtain ⟨v1, n1, k1, v2, n2, k2, v3, n3, k3, rfl⟩ := hv.rd.shape
    have p0 : w1.heap[w.heap.size]? = some (.cells #[.slice none 0 0, .slice none 0 0, .slice none 0 0] 25 (0, 0)) := blk_later hb (by repeat (first | (refine heap_alloc_at ?_; simp; done) | (refine (heap_alloc_old _ _ ?_).trans ?_; · (simp <;> omega))))
    obtain ⟨⟨c0, c1, c2⟩, f0, f1, f2⟩ := blk3 p0
    obtain ⟨⟨q0, q1, q2⟩, hk⟩ := stored3 p0 (.slice v1 n1 k1) (.slice v2 n2 k2) (.slice v3 n3 k3)
    have hz := hb.size
    have hB : Below w.heap.size w w1 := Below.trans (by repeat (first | exact Below.refl _ _ | refine Below.alloc ?_ (by simp <;> omega) _)) (hb.mono (by simp <;> omega))
    simp only [World.size_alloc] at hz hv
    replace hz := Lib.hid hz
    replace hv := Lib.hid hv
    replace q0 := Lib.hid q0
    replace q1 := Lib.hid q1
    replace q2 := Lib.hid q2
    go_wp2
    refine bodyPost_ret (v := .agg #[.slice v1 n1 k1, .slice v2 n2 k2, .slice v3 n3 k3]) (by simp [results, Try.results66, go_sem, q0.out, q1.out, q2.out]) rfl ⟨_, rfl, ?_, hB.trans (hk.below (fun k h => by omega) (by have := hz.out; omega))⟩
    have hz2 := hk.size
    have hz3 := hz.out
    exact (hv.out.off hk (fun k h1 h2 => by have := h1.1; omega)).mono (by omega) (fun k h => ⟨by have := h.1; omega, by have := h.2; omega⟩)

theorem namedU_no {n : Int} (h : inB 1 3 n = false) : namedU n = ⟨[], [], []⟩ := by simp [namedU, h]
theorem namedU_yes {n : Int} (h : inB 1 3 n = true) : namedU n = madeU 0 0 1 1 (namedSay n) := by simp [namedU, h]

theorem c_spec_NamedRule (n : Int) (w : World) :
    Calls Try.prog 19 #[.int .i64 n] w fun e w' => ∃ v', e = .returned (.tuple #[v', .bool (inB 1 3 n)]) ∧ OwnU w' w.heap.size (fun k => w.heap.size ≤ k ∧ k < w'.heap.size) v' (namedU n) ∧ Below w.heap.size w w' := by
  cases hn : inB 1 3 n
  · have hF := Lib.hid (namedU_no hn)
    go_enter Try.func19, Try.ntmps19
    go_wp2_with (go_at_call 65; refine (c_l1In _ _ _ _).mono ?_; rintro e w' ⟨rfl, rfl⟩)
    refine bodyPost_ret (v := .tuple #[.agg #[.slice none 0 0, .slice none 0 0, .slice none 0 0], .bool false]) (by simp [results, Try.results19, go_sem]) rfl ⟨_, rfl, by rw [hF.out]; exact ownU_nil _ _ _, ?_⟩
    repeat (first | exact Below.refl _ _ | refine Below.alloc ?_ (by simp <;> omega) _)
  · rw [namedU_yes hn]
    have hn' := Lib.hid hn
    go_enter Try.func19, Try.ntmps19
    go_wp2_with fail
    refine (c_l1In _ _ _ _).mono ?_
    rintro e w' ⟨rfl, rfl⟩
    go_wp2_with fail
    refine (c_l10Named n hn'.out _).mono ?_
    rintro e w1 ⟨v, rfl, hv, hb⟩
    obtain ⟨v1, n1, k1, v2, n2, k2, v3, n3, k3, rfl⟩ := hv.rd.shape
    have p0 : w1.heap[w.heap.size]? = some (.cells #[.slice none 0 0, .slice none 0 0, .slice none 0 0] 25 (0, 0)) := blk_later hb (by repeat (first | (refine heap_alloc_at ?_; simp; done) | (refine (heap_alloc_old _ _ ?_).trans ?_; · (simp <;> omega))))
    obtain ⟨⟨c0, c1, c2⟩, f0, f1, f2⟩ := blk3 p0
    obtain ⟨⟨q0, q1, q2⟩, hk⟩ := stored3 p0 (.slice v1 n1 k1) (.slice v2 n2 k2) (.slice v3 n3 k3)
    have hz := hb.size
    have hB : Below w.heap.size w w1 := Below.trans (by repeat (first | exact Below.refl _ _ | refine Below.alloc ?_ (by simp <;> omega) _)) (hb.mono (by simp <;> omega))
    simp only [World.size_alloc] at hz hv
    replace hz := Lib.hid hz
    replace hv := Lib.hid hv
    replace q0 := Lib.hid q0
    replace q1 := Lib.hid q1
    replace q2 := Lib.hid q2
    go_wp2
    refine bodyPost_ret (v := .tuple #[.agg #[.slice v1 n1 k1, .slice v2 n2 k2, .slice v3 n3 k3], .bool true]) (by simp [results, Try.results19, go_sem, q0.out, q1.out, q2.out]) rfl ⟨_, rfl, ?_, hB.trans (hk.below (fun k h => by omega) (by have := hz.out; omega))⟩
    have hz2 := hk.size
    have hz3 := hz.out
    exact (hv.out.off hk (fun k h1 h2 => by have := h1.1; omega)).mono (by omega) (fun k h => ⟨by have := h.1; omega, by have := h.2; omega⟩)

set_option maxHeartbeats 2000000 in
theorem c_impl_NamedRule (n : Int) (w : World) :
    Calls Try.prog 20 #[.int .i64 n] w fun e w' => ∃ v', e = .returned (.tuple #[v', .bool (inB 1 3 n)]) ∧ OwnU w' w.heap.size (fun k => w.heap.size ≤ k ∧ k < w'.heap.size) v' (namedU n) ∧ Below w.heap.size w w' := by
  cases hn : inB 1 3 n
  · have hF := Lib.hid (namedU_no hn)
    go_enter Try.func20, Try.ntmps20
    go_wp2_with (go_at_call 67; refine (c_within _ _ _ _).mono ?_; rintro e w' ⟨rfl, rfl⟩)
    refine bodyPost_ret (v := .tuple #[.agg #[.slice none 0 0, .slice none 0 0, .slice none 0 0], .bool false]) (by simp [results, Try.results20, go_sem]) rfl ⟨_, rfl, by rw [hF.out]; exact ownU_nil _ _ _, ?_⟩
    repeat (first | exact Below.refl _ _ | refine Below.alloc ?_ (by simp <;> omega) _)
  · rw [namedU_yes hn]
    have hb := inB_iff.1 hn
    have hn' : n = 1 ∨ n = 2 ∨ n = 3 := by omega
    clear hb hn
    rcases hn' with rfl | rfl | rfl
    · go_enter Try.func20, Try.ntmps20
      go_wp2_with fail
      refine (c_within _ _ _ _).mono ?_
      rintro e w' ⟨rfl, rfl⟩
      go_wp2_with fail
      refine (c_ruleOf _ 0 0 1 1 0 0 1 1 _ (blk_ints (xs := [0, 0, 1, 1]) (by repeat (first | (refine heap_alloc_at ?_; simp; done) | (refine (heap_alloc_old _ _ ?_).trans ?_; · (simp <;> omega)))) rfl (by simp))).mono ?_
      rintro e w1 ⟨v, rfl, hv, hb⟩
      obtain ⟨v1, n1, k1, v2, n2, k2, v3, n3, k3, rfl⟩ := hv.rd.shape
      have p0 : w1.heap[w.heap.size]? = some (.cells #[.slice none 0 0, .slice none 0 0, .slice none 0 0] 25 (0, 0)) := blk_later hb (by repeat (first | (refine heap_alloc_at ?_; simp; done) | (refine (heap_alloc_old _ _ ?_).trans ?_; · (simp <;> omega))))
      obtain ⟨⟨c0, c1, c2⟩, f0, f1, f2⟩ := blk3 p0
      obtain ⟨⟨q0, q1, q2⟩, hk⟩ := stored3 p0 (.slice v1 n1 k1) (.slice v2 n2 k2) (.slice v3 n3 k3)
      have hz := hb.size
      have hB : Below w.heap.size w w1 := Below.trans (by repeat (first | exact Below.refl _ _ | refine Below.alloc ?_ (by simp <;> omega) _)) (hb.mono (by simp <;> omega))
      simp only [World.size_alloc] at hz hv
      replace hz := Lib.hid hz
      replace hv := Lib.hid hv
      replace q0 := Lib.hid q0
      replace q1 := Lib.hid q1
      replace q2 := Lib.hid q2
      go_wp2
      refine bodyPost_ret (v := .tuple #[.agg #[.slice v1 n1 k1, .slice v2 n2 k2, .slice v3 n3 k3], .bool true]) (by simp [results, Try.results20, go_sem, q0.out, q1.out, q2.out]) rfl ⟨_, rfl, ?_, hB.trans (hk.below (fun k h => by omega) (by have := hz.out; omega))⟩
      have hz2 := hk.size
      have hz3 := hz.out
      exact (hv.out.off hk (fun k h1 h2 => by have := h1.1; omega)).mono (by omega) (fun k h => ⟨by have := h.1; omega, by have := h.2; omega⟩)
    · go_enter Try.func20, Try.ntmps20
      go_wp2_with fail
      refine (c_within _ _ _ _).mono ?_
      rintro e w' ⟨rfl, rfl⟩
      go_wp2_with fail
      refine (c_ruleOf _ 0 0 1 1 0 1 0 1 _ (blk_ints (xs := [0, 0, 1, 1]) (by repeat (first | (refine heap_alloc_at ?_; simp; done) | (refine (heap_alloc_old _ _ ?_).trans ?_; · (simp <;> omega)))) rfl (by simp))).mono ?_
      rintro e w1 ⟨v, rfl, hv, hb⟩
      obtain ⟨v1, n1, k1, v2, n2, k2, v3, n3, k3, rfl⟩ := hv.rd.shape
      have p0 : w1.heap[w.heap.size]? = some (.cells #[.slice none 0 0, .slice none 0 0, .slice none 0 0] 25 (0, 0)) := blk_later hb (by repeat (first | (refine heap_alloc_at ?_; simp; done) | (refine (heap_alloc_old _ _ ?_).trans ?_; · (simp <;> omega))))
      obtain ⟨⟨c0, c1, c2⟩, f0, f1, f2⟩ := blk3 p0
      obtain ⟨⟨q0, q1, q2⟩, hk⟩ := stored3 p0 (.slice v1 n1 k1) (.slice v2 n2 k2) (.slice v3 n3 k3)
      have hz := hb.size
      have hB : Below w.heap.size w w1 := Below.trans (by repeat (first | exact Below.refl _ _ | refine Below.alloc ?_ (by simp <;> omega) _)) (hb.mono (by simp <;> omega))
      simp only [World.size_alloc] at hz hv
      replace hz := Lib.hid hz
      replace hv := Lib.hid hv
      replace q0 := Lib.hid q0
      replace q1 := Lib.hid q1
      replace q2 := Lib.hid q2
      go_wp2
      refine bodyPost_ret (v := .tuple #[.agg #[.slice v1 n1 k1, .slice v2 n2 k2, .slice v3 n3 k3], .bool true]) (by simp [results, Try.results20, go_sem, q0.out, q1.out, q2.out]) rfl ⟨_, rfl, ?_, hB.trans (hk.below (fun k h => by omega) (by have := hz.out; omega))⟩
      have hz2 := hk.size
      have hz3 := hz.out
      exact (hv.out.off hk (fun k h1 h2 => by have := h1.1; omega)).mono (by omega) (fun k h => ⟨by have := h.1; omega, by have := h.2; omega⟩)
    · go_enter Try.func20, Try.ntmps20
      go_wp2_with fail
      refine (c_within _ _ _ _).mono ?_
      rintro e w' ⟨rfl, rfl⟩
      go_wp2_with fail
      refine (c_ruleOf _ 0 0 1 1 0 1 1 0 _ (blk_ints (xs := [0, 0, 1, 1]) (by repeat (first | (refine heap_alloc_at ?_; simp; done) | (refine (heap_alloc_old _ _ ?_).trans ?_; · (simp <;> omega)))) rfl (by simp))).mono ?_
      rintro e w1 ⟨v, rfl, hv, hb⟩
      obtain ⟨v1, n1, k1, v2, n2, k2, v3, n3, k3, rfl⟩ := hv.rd.shape
      have p0 : w1.heap[w.heap.size]? = some (.cells #[.slice none 0 0, .slice none 0 0, .slice none 0 0] 25 (0, 0)) := blk_later hb (by repeat (first | (refine heap_alloc_at ?_; simp; done) | (refine (heap_alloc_old _ _ ?_).trans ?_; · (simp <;> omega))))
      obtain ⟨⟨c0, c1, c2⟩, f0, f1, f2⟩ := blk3 p0
      obtain ⟨⟨q0, q1, q2⟩, hk⟩ := stored3 p0 (.slice v1 n1 k1) (.slice v2 n2 k2) (.slice v3 n3 k3)
      have hz := hb.size
      have hB : Below w.heap.size w w1 := Below.trans (by repeat (first | exact Below.refl _ _ | refine Below.alloc ?_ (by simp <;> omega) _)) (hb.mono (by simp <;> omega))
      simp only [World.size_alloc] at hz hv
      replace hz := Lib.hid hz
      replace hv := Lib.hid hv
      replace q0 := Lib.hid q0
      replace q1 := Lib.hid q1
      replace q2 := Lib.hid q2
      go_wp2
      refine bodyPost_ret (v := .tuple #[.agg #[.slice v1 n1 k1, .slice v2 n2 k2, .slice v3 n3 k3], .bool true]) (by simp [results, Try.results20, go_sem, q0.out, q1.out, q2.out]) rfl ⟨_, rfl, ?_, hB.trans (hk.below (fun k h => by omega) (by have := hz.out; omega))⟩
      have hz2 := hk.size
      have hz3 := hz.out
      exact (hv.out.off hk (fun k h1 h2 => by have := h1.1; omega)).mono (by omega) (fun k h => ⟨by have := h.1; omega, by have := h.2; omega⟩)

theorem c_sumRuleBy (v : Value) (a0 a1 a2 a3 : Int) (w : World) (h : Ints w v [a0, a1, a2, a3]) :
    Calls Try.prog 79 #[v] w fun e w' => ∃ v', e = .returned v' ∧ OwnU w' w.heap.size (fun k => w.heap.size ≤ k ∧ k < w'.heap.size) v' (madeU a0 a1 a2 a3 [0, 1, 1, 0]) ∧ Below w.heap.size w w' := by
  go_enter Try.func79, Try.ntmps79
  go_wp2_with fail
  refine (c_ruleOf _ a0 a1 a2 a3 0 1 1 0 _ (h.below (by repeat (first | exact Below.refl _ _ | refine Below.alloc ?_ (by simp <;> omega) _)))).mono ?_
  rintro e w1 ⟨v, rfl, hv, hb⟩
  obtain ⟨v1, n1, k1, v2, n2, k2, v3, n3, k3, rfl⟩ := hv.rd.shape
  have p0 : w1.heap[w.heap.size]? = some (.cells #[.slice none 0 0, .slice none 0 0, .slice none 0 0] 25 (0, 0)) := blk_later hb (by repeat (first | (refine heap_alloc_at ?_; simp; done) | (refine (heap_alloc_old _ _ ?_).trans ?_; · (simp <;> omega))))
  obtain ⟨⟨c0, c1, c2⟩, f0, f1, f2⟩ := blk3 p0
  obtain ⟨⟨q0, q1, q2⟩, hk⟩ := stored3 p0 (.slice v1 n1 k1) (.slice v2 n2 k2) (.slice v3 n3 k3)
  have hz := hb.size
  have hB : Below w.heap.size w w1 := Below.trans (by repeat (first | exact Below.refl _ _ | refine Below.alloc ?_ (by simp <;> omega) _)) (hb.mono (by simp <;> omega))
  simp only [World.size_alloc] at hz hv
  replace hz := Lib.hid hz
  replace hv := Lib.hid hv
  replace q0 := Lib.hid q0
  replace q1 := Lib.hid q1
  replace q2 := Lib.hid q2
  go_wp2
  refine bodyPost_ret (v := .agg #[.slice v1 n1 k1, .slice v2 n2 k2, .slice v3 n3 k3]) (by simp [results, Try.results79, go_sem, q0.out, q1.out, q2.out]) rfl ⟨_, rfl, ?_, hB.trans (hk.below (fun k h => by omega) (by have := hz.out; omega))⟩
  have hz2 := hk.size
  have hz3 := hz.out
  exact (hv.out.off hk (fun k h1 h2 => by have := h1.1; omega)).mono (by omega) (fun k h => ⟨by have := h.1; omega, by have := h.2; omega⟩)

/-- the sum rule by an ask list -/
def sumU : List Int → RuleD
  | [a0, a1, a2, a3] => madeU a0 a1 a2 a3 [0, 1, 1, 0]
  | _ => ⟨[], [], []⟩
def sumByU (xs : List Int) : RuleD := if bitsB 4 xs then sumU xs else ⟨[], [], []⟩
theorem sumByU_no {xs : List Int} (h : bitsB 4 xs = false) : sumByU xs = ⟨[], [], []⟩ := by simp [sumByU, h]
theorem four {xs : List Int} (h : bitsB 4 xs = true) : ∃ a0 a1 a2 a3, xs = [a0, a1, a2, a3] := by
  unfold bitsB at h
  simp only [Bool.and_eq_true, beq_iff_eq] at h
  match xs, h with
  | [a, b, c, d], _ => exact ⟨a, b, c, d, rfl⟩

theorem c_spec_SumRuleBy (v : Value) (xs : List Int) (w : World) (h : Ints w v xs) :
    Calls Try.prog 28 #[v] w fun e w' => ∃ v', e = .returned (.tuple #[v', .bool (bitsB 4 xs)]) ∧ OwnU w' w.heap.size (fun k => w.heap.size ≤ k ∧ k < w'.heap.size) v' (sumByU xs) ∧ Below w.heap.size w w' := by
  have hA := (Below.refl w.heap.size w).alloc (Nat.le_refl _) (.cells #[.slice none 0 0, .slice none 0 0, .slice none 0 0] 25)
  cases hn : bitsB 4 xs
  · have hF := Lib.hid (sumByU_no hn)
    go_enter Try.func28, Try.ntmps28
    go_wp2_with fail
    refine (c_l2Bits _ xs _ _ (h.below hA)).mono ?_
    rintro e w' ⟨rfl, rfl⟩
    rw [hn]
    clear hn
    go_wp2
    refine bodyPost_ret (v := .tuple #[.agg #[.slice none 0 0, .slice none 0 0, .slice none 0 0], .bool false]) (by simp [results, Try.results28, go_sem]) rfl ⟨_, rfl, by rw [hF.out]; exact ownU_nil _ _ _, ?_⟩
    repeat (first | exact Below.refl _ _ | refine Below.alloc ?_ (by simp <;> omega) _)
  · obtain ⟨a0, a1, a2, a3, rfl⟩ := four hn
    have hF : Hid (sumByU [a0, a1, a2, a3] = madeU a0 a1 a2 a3 [0, 1, 1, 0]) := Lib.hid (by simp [sumByU, hn, sumU])
    rw [hF.out]
    have hn' := Lib.hid hn
    clear hn
    go_enter Try.func28, Try.ntmps28
    go_wp2_with fail
    refine (c_l2Bits _ [a0, a1, a2, a3] _ _ (h.below hA)).mono ?_
    rintro e w' ⟨rfl, rfl⟩
    rw [hn'.out]
    go_wp2_with fail
    refine (c_l10Made _ _ a0 a1 a2 a3 [0, 1, 1, 0] _ (h.below (by repeat (first | exact Below.refl _ _ | refine Below.alloc ?_ (by simp <;> omega) _))) (blk_ints (xs := [0, 1, 1, 0]) (by repeat (first | (refine heap_alloc_at ?_; simp; done) | (refine (heap_alloc_old _ _ ?_).trans ?_; · (simp <;> omega)))) rfl (by simp)) (by simp) (by simp)).mono ?_
    rintro e w1 ⟨v, rfl, hv, hb⟩
    obtain ⟨v1, n1, k1, v2, n2, k2, v3, n3, k3, rfl⟩ := hv.rd.shape
    have p0 : w1.heap[w.heap.size]? = some (.cells #[.slice none 0 0, .slice none 0 0, .slice none 0 0] 25 (0, 0)) := blk_later hb (by repeat (first | (refine heap_alloc_at ?_; simp; done) | (refine (heap_alloc_old _ _ ?_).trans ?_; · (simp <;> omega))))
    obtain ⟨⟨c0, c1, c2⟩, f0, f1, f2⟩ := blk3 p0
    obtain ⟨⟨q0, q1, q2⟩, hk⟩ := stored3 p0 (.slice v1 n1 k1) (.slice v2 n2 k2) (.slice v3 n3 k3)
    have hz := hb.size
    have hB : Below w.heap.size w w1 := Below.trans (by repeat (first | exact Below.refl _ _ | refine Below.alloc ?_ (by simp <;> omega) _)) (hb.mono (by simp <;> omega))
    simp only [World.size_alloc] at hz hv
    replace hz := Lib.hid hz
    replace hv := Lib.hid hv
    replace q0 := Lib.hid q0
    replace q1 := Lib.hid q1
    replace q2 := Lib.hid q2
    go_wp2
    refine bodyPost_ret (v := .tuple #[.agg #[.slice v1 n1 k1, .slice v2 n2 k2, .slice v3 n3 k3], .bool true]) (by simp [results, Try.results28, go_sem, q0.out, q1.out, q2.out]) rfl ⟨_, rfl, ?_, hB.trans (hk.below (fun k h => by omega) (by have := hz.out; omega))⟩
    have hz2 := hk.size
    have hz3 := hz.out
    exact (hv.out.off hk (fun k h1 h2 => by have := h1.1; omega)).mono (by omega) (fun k h => ⟨by have := h.1; omega, by have := h.2; omega⟩)

theorem c_impl_SumRuleBy (v : Value) (xs : List Int) (w : World) (h : Ints w v xs) :
    Calls Try.prog 30 #[v] w fun e w' => ∃ v', e = .returned (.tuple #[v', .bool (bitsB 4 xs)]) ∧ OwnU w' w.heap.size (fun k => w.heap.size ≤ k ∧ k < w'.heap.size) v' (sumByU xs) ∧ Below w.heap.size w w' := by
  have hA := (Below.refl w.heap.size w).alloc (Nat.le_refl _) (.cells #[.slice none 0 0, .slice none 0 0, .slice none 0 0] 25)
  cases hn : bitsB 4 xs
  · have hF := Lib.hid (sumByU_no hn)
    go_enter Try.func30, Try.ntmps30
    go_wp2_with fail
    refine (c_isBits _ xs _ _ (h.below hA)).mono ?_
    rintro e w' ⟨rfl, rfl⟩
    rw [hn]
    clear hn
    go_wp2
    refine bodyPost_ret (v := .tuple #[.agg #[.slice none 0 0, .slice none 0 0, .slice none 0 0], .bool false]) (by simp [results, Try.results30, go_sem]) rfl ⟨_, rfl, by rw [hF.out]; exact ownU_nil _ _ _, ?_⟩
    repeat (first | exact Below.refl _ _ | refine Below.alloc ?_ (by simp <;> omega) _)
  · obtain ⟨a0, a1, a2, a3, rfl⟩ := four hn
    have hF : Hid (sumByU [a0, a1, a2, a3] = madeU a0 a1 a2 a3 [0, 1, 1, 0]) := Lib.hid (by simp [sumByU, hn, sumU])
    rw [hF.out]
    have hn' := Lib.hid hn
    clear hn
    go_enter Try.func30, Try.ntmps30
    go_wp2_with fail
    refine (c_isBits _ [a0, a1, a2, a3] _ _ (h.below hA)).mono ?_
    rintro e w' ⟨rfl, rfl⟩
    rw [hn'.out]
    go_wp2_with fail
    refine (c_sumRuleBy _ a0 a1 a2 a3 _ (h.below (by repeat (first | exact Below.refl _ _ | refine Below.alloc ?_ (by simp <;> omega) _)))).mono ?_
    rintro e w1 ⟨v, rfl, hv, hb⟩
    obtain ⟨v1, n1, k1, v2, n2, k2, v3, n3, k3, rfl⟩ := hv.rd.shape
    have p0 : w1.heap[w.heap.size]? = some (.cells #[.slice none 0 0, .slice none 0 0, .slice none 0 0] 25 (0, 0)) := blk_later hb (by repeat (first | (refine heap_alloc_at ?_; simp; done) | (refine (heap_alloc_old _ _ ?_).trans ?_; · (simp <;> omega))))
    obtain ⟨⟨c0, c1, c2⟩, f0, f1, f2⟩ := blk3 p0
    obtain ⟨⟨q0, q1, q2⟩, hk⟩ := stored3 p0 (.slice v1 n1 k1) (.slice v2 n2 k2) (.slice v3 n3 k3)
    have hz := hb.size
    have hB : Below w.heap.size w w1 := Below.trans (by repeat (first | exact Below.refl _ _ | refine Below.alloc ?_ (by simp <;> omega) _)) (hb.mono (by simp <;> omega))
    simp only [World.size_alloc] at hz hv
    replace hz := Lib.hid hz
    replace hv := Lib.hid hv
    replace q0 := Lib.hid q0
    replace q1 := Lib.hid q1
    replace q2 := Lib.hid q2
    go_wp2
    refine bodyPost_ret (v := .tuple #[.agg #[.slice v1 n1 k1, .slice v2 n2 k2, .slice v3 n3 k3], .bool true]) (by simp [results, Try.results30, go_sem, q0.out, q1.out, q2.out]) rfl ⟨_, rfl, ?_, hB.trans (hk.below (fun k h => by omega) (by have := hz.out; omega))⟩
    have hz2 := hk.size
    have hz3 := hz.out
    exact (hv.out.off hk (fun k h1 h2 => by have := h1.1; omega)).mono (by omega) (fun k h => ⟨by have := h.1; omega, by have := h.2; omega⟩)
end Go.Proofs.Ytikfddppjalfdaa
