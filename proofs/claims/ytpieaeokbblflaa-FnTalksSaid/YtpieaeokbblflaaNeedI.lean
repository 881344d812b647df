/- The need of a rectangle on the program's side; conditions: none. -/
import Derived.Test.YtpieaeokbblflaaMemoI
import Derived.Maps.OwnOps
namespace Go.Proofs.Ytpieaeokbblflaa
open Go.RowKit Go.Maps

/-- what a call of need does -/
def NeedK (t : List (List Int)) (v : Value) (B gb mb s : Nat) : Prop :=
  ∀ R C : Nat, R + C ≤ s → 0 < R → 0 < C → R < 16 → C < 16 → R < 2 ^ t.length → C < 2 ^ wid t → ∀ w, TalkM t v B gb mb w →
    Calls Try.prog 70 #[.pointer (some ⟨gb, 0, none⟩), .agg #[.int .i64 (R : Int), .int .i64 (C : Int)]] w fun e w' => e = .returned (.int .i64 (need t R C : Int)) ∧ TalkM t v B gb mb w' ∧ KeptOff (fun k => k = mb) w w'
theorem kept_then {F : Nat → Prop} {a b c : World} (h : KeptOff F a b) (k : Below b.heap.size b c) : KeptOff F a c := h.trans ((kept0 k).mono fun _ f => f.elim)
theorem blk4n {w : World} {b : Nat} {v1 v2 v3 v4 : Value} {t : TypeId} (h : w.heap[b]? = some (.cells #[v1, v2, v3, v4] t (0, 0))) :
    w.cell? ⟨b, 0, none⟩ = some v1 ∧ w.cell? ⟨b, 1, none⟩ = some v2 ∧ w.cell? ⟨b, 2, none⟩ = some v3 ∧ w.cell? ⟨b, 3, none⟩ = some v4 := by
  refine ⟨?_, ?_, ?_, ?_⟩ <;> simp [World.cell?, h]

set_option maxRecDepth 100000 in
set_option maxHeartbeats 4000000 in
theorem c_after0 {t : List (List Int)} {v : Value} {B gb mb s : Nat} (hk : NeedK t v B gb mb s) (R C p : Nat) (hs : R + C ≤ s + 1) (hR : 0 < R) (hC : 0 < C) (hR1 : R < 16) (hC1 : C < 16) (hR2 : R < 2 ^ t.length) (hC2 : C < 2 ^ wid t)
    (hp0 : 0 < p) (hp1 : p < R) (hp2 : p &&& R = p) (w : World) (h : TalkM t v B gb mb w) :
    Calls Try.prog 129 #[.pointer (some ⟨gb, 0, none⟩), .agg #[.int .i64 (R : Int), .int .i64 (C : Int)], .int .i64 0, .int .i64 (p : Int)] w fun e w' => e = .returned (.int .i64 (1 + max (need t (R - p) (C)) (need t (p) (C)) : Nat)) ∧ TalkM t v B gb mb w' ∧ KeptOff (fun k => k = mb) w w' := by
  have n1 := hk (R - p) (C) (by omega) (by omega) (by omega) (by omega) (by omega) (by omega) (by omega)
  have n2 := hk (p) (C) (by omega) (by omega) (by omega) (by omega) (by omega) (by omega) (by omega)
  have b1 := need_le t (R - p) (C)
  have b2 := need_le t (p) (C)
  obtain ⟨x, hx⟩ : ∃ x, x = need t (R - p) (C) := ⟨_, rfl⟩
  obtain ⟨y, hy⟩ : ∃ y, y = need t (p) (C) := ⟨_, rfl⟩
  rw [← hx] at n1 b1 ⊢
  rw [← hy] at n2 b2 ⊢
  replace hx := Lib.hid hx
  replace hy := Lib.hid hy
  replace n1 := Lib.hid n1
  replace n2 := Lib.hid n2
  have hlt := h.lt
  have hA := (Below.refl w.heap.size w).alloc (Nat.le_refl _) (.cells #[.int .i64 (R : Int), .int .i64 (C : Int)] 81)
  go_enter Try.func129, Try.ntmps129
  go_wp2_with fail
  refine (c_parts0 R C p hR1 hC1 (by omega) hp2 _).mono ?_
  rintro e w1 ⟨rfl, hb1⟩
  have hB1 := hA.trans (hb1.mono (by simp))
  go_wp2_with fail
  obtain ⟨w2, hw2⟩ : ∃ w2, w2 = w1.alloc (.cells #[.int .i64 ((R - p : Nat) : Int), .int .i64 ((C : Nat) : Int), .int .i64 ((p : Nat) : Int), .int .i64 ((C : Nat) : Int)] 130) := ⟨_, rfl⟩
  rw [← hw2]
  have hc2 : w2.heap[w1.heap.size]? = some (.cells #[.int .i64 ((R - p : Nat) : Int), .int .i64 ((C : Nat) : Int), .int .i64 ((p : Nat) : Int), .int .i64 ((C : Nat) : Int)] 130 (0, 0)) := by rw [hw2]; exact heap_alloc_at rfl
  have hB2 : Below w.heap.size w w2 := by rw [hw2]; exact hB1.alloc hB1.size _
  have hz1 := hB1.size
  clear hw2 hb1 hA
  replace hB2 := hB2.drew
  have hT2 := h.below hB2
  have hK2 : KeptOff (fun k => k = mb) w w2.drew := (kept0 hB2).mono fun _ f => f.elim
  replace hc2 : w2.drew.heap[w1.heap.size]? = _ := hc2
  replace h := Lib.hid h
  refine wp_region_vals (by kernel_rfl) [none, none, none, none, none, none, none, none, some 10, none, none, none, none, none, some 0, some 1, some 2, some 3, some 4, some 5, some 6, some 7, some 8, some 9] 10 (by kernel_rfl) (by kernel_rfl) (by kernel_rfl) _ rfl (fun ww => TalkM t v B gb mb ww ∧ KeptOff (fun k => k = mb) w ww ∧ ww.heap[w1.heap.size]? = some (.cells #[.int .i64 ((R - p : Nat) : Int), .int .i64 ((C : Nat) : Int), .int .i64 ((p : Nat) : Int), .int .i64 ((C : Nat) : Int)] 130 (0, 0))) (⟨hT2, hK2, hc2⟩) [.pointer (some ⟨gb, 0, none⟩), .pointer (some ⟨w1.heap.size, 0, none⟩), .agg #[.int .i64 ((R - p : Nat) : Int), .int .i64 ((C : Nat) : Int)], .int .i64 (x : Int), .pointer (some ⟨gb, 0, none⟩), .pointer (some ⟨w1.heap.size, 2, none⟩), .agg #[.int .i64 ((p : Nat) : Int), .int .i64 ((C : Nat) : Int)], .int .i64 (y : Int), .int .i64 (max (x : Int) (y : Int)), .int .i64 (1 + max (x : Int) (y : Int))] ?_ ?_
  · intro i o ho hi u ww hI hd
    obtain ⟨iT, iK, iC⟩ := id hI
    have il := (Array.getElem?_eq_some_iff.1 iC).1
    obtain ⟨y0, y1, y2, y3⟩ := blk4n iC
    replace hI := Lib.hid hI
    rcases i with _ | _ | _ | _ | _ | _ | _ | _ | _ | _ | _ | i
    all_goals try obtain rfl := Option.some.inj ho
    all_goals try simp only [putAll, fillL]
    · go_wp2
      exact ⟨rfl, hI.out⟩
    · go_wp2
      exact ⟨rfl, hI.out⟩
    · have e1 : u 1 = .pointer (some ⟨w1.heap.size, 0, none⟩) := hd 1 (by decide)
      rw [e1]
      go_wp2
      exact ⟨by simp only [putAll, fillL, e1] <;> rfl, hI.out⟩
    · have e0 : u 0 = .pointer (some ⟨gb, 0, none⟩) := hd 0 (by decide)
      rw [e0]
      have e2 : u 2 = .agg #[.int .i64 ((R - p : Nat) : Int), .int .i64 ((C : Nat) : Int)] := hd 2 (by decide)
      rw [e2]
      go_wp2_with fail
      refine (n1.out _ iT).mono ?_
      rintro e wn ⟨rfl, jT, jK⟩
      have hN : Hid ((fun ww => TalkM t v B gb mb ww ∧ KeptOff (fun k => k = mb) w ww ∧ ww.heap[w1.heap.size]? = some (.cells #[.int .i64 ((R - p : Nat) : Int), .int .i64 ((C : Nat) : Int), .int .i64 ((p : Nat) : Int), .int .i64 ((C : Nat) : Int)] 130 (0, 0))) wn) := Lib.hid (⟨jT, iK.trans jK, (jK.block _ il (by omega)).trans iC⟩)
      go_wp2
      exact ⟨by simp only [putAll, fillL, e0, e2] <;> rfl, hN.out⟩
    · go_wp2
      exact ⟨rfl, hI.out⟩
    · go_wp2
      exact ⟨rfl, hI.out⟩
    · have e5 : u 5 = .pointer (some ⟨w1.heap.size, 2, none⟩) := hd 5 (by decide)
      rw [e5]
      go_wp2
      exact ⟨by simp only [putAll, fillL, e5] <;> rfl, hI.out⟩
    · have e4 : u 4 = .pointer (some ⟨gb, 0, none⟩) := hd 4 (by decide)
      rw [e4]
      have e6 : u 6 = .agg #[.int .i64 ((p : Nat) : Int), .int .i64 ((C : Nat) : Int)] := hd 6 (by decide)
      rw [e6]
      go_wp2_with fail
      refine (n2.out _ iT).mono ?_
      rintro e wn ⟨rfl, jT, jK⟩
      have hN : Hid ((fun ww => TalkM t v B gb mb ww ∧ KeptOff (fun k => k = mb) w ww ∧ ww.heap[w1.heap.size]? = some (.cells #[.int .i64 ((R - p : Nat) : Int), .int .i64 ((C : Nat) : Int), .int .i64 ((p : Nat) : Int), .int .i64 ((C : Nat) : Int)] 130 (0, 0))) wn) := Lib.hid (⟨jT, iK.trans jK, (jK.block _ il (by omega)).trans iC⟩)
      go_wp2
      exact ⟨by simp only [putAll, fillL, e4, e6] <;> rfl, hN.out⟩
    · have e3 : u 3 = .int .i64 (x : Int) := hd 3 (by decide)
      rw [e3]
      have e7 : u 7 = .int .i64 (y : Int) := hd 7 (by decide)
      rw [e7]
      by_cases hxy : (x : Int) < (y : Int)
      all_goals first | rw [Int.max_eq_right (Int.le_of_lt hxy)] | rw [Int.max_eq_left (Int.not_lt.1 hxy)]
      all_goals go_wp2
      all_goals exact ⟨by simp only [putAll, fillL, e3, e7] <;> rfl, hI.out⟩
    · have e8 : u 8 = .int .i64 (max (x : Int) (y : Int)) := hd 8 (by decide)
      rw [e8]
      go_wp2
      exact ⟨by simp only [putAll, fillL, e8] <;> rfl, hI.out⟩
    · exact absurd rfl hi
    · simp at ho
  · intro u ww hI hV
    have e0 : u 0 = .pointer (some ⟨gb, 0, none⟩) := hV 0 (by decide) (by decide)
    have e1 : u 1 = .pointer (some ⟨w1.heap.size, 0, none⟩) := hV 1 (by decide) (by decide)
    have e2 : u 2 = .agg #[.int .i64 ((R - p : Nat) : Int), .int .i64 ((C : Nat) : Int)] := hV 2 (by decide) (by decide)
    have e3 : u 3 = .int .i64 (x : Int) := hV 3 (by decide) (by decide)
    have e4 : u 4 = .pointer (some ⟨gb, 0, none⟩) := hV 4 (by decide) (by decide)
    have e5 : u 5 = .pointer (some ⟨w1.heap.size, 2, none⟩) := hV 5 (by decide) (by decide)
    have e6 : u 6 = .agg #[.int .i64 ((p : Nat) : Int), .int .i64 ((C : Nat) : Int)] := hV 6 (by decide) (by decide)
    have e7 : u 7 = .int .i64 (y : Int) := hV 7 (by decide) (by decide)
    have e8 : u 8 = .int .i64 (max (x : Int) (y : Int)) := hV 8 (by decide) (by decide)
    have e9 : u 9 = .int .i64 (1 + max (x : Int) (y : Int)) := hV 9 (by decide) (by decide)
    simp only [putAll, fillL]
    rw [e0, e1, e2, e3, e4, e5, e6, e7, e8, e9]
    clear hV e0 e1 e2 e3 e4 e5 e6 e7 e8 e9
    try simp only [List.getElem_toArray, List.getElem_cons_succ, List.getElem_cons_zero]
    go_wp2
    go_ret
    exact ⟨by rw [show ((1 + max x y : Nat) : Int) = 1 + max (x : Int) (y : Int) by omega]; rfl, hI.1, hI.2.1⟩
set_option maxRecDepth 100000 in
set_option maxHeartbeats 4000000 in
theorem c_after1 {t : List (List Int)} {v : Value} {B gb mb s : Nat} (hk : NeedK t v B gb mb s) (R C p : Nat) (hs : R + C ≤ s + 1) (hR : 0 < R) (hC : 0 < C) (hR1 : R < 16) (hC1 : C < 16) (hR2 : R < 2 ^ t.length) (hC2 : C < 2 ^ wid t)
    (hp0 : 0 < p) (hp1 : p < C) (hp2 : p &&& C = p) (w : World) (h : TalkM t v B gb mb w) :
    Calls Try.prog 129 #[.pointer (some ⟨gb, 0, none⟩), .agg #[.int .i64 (R : Int), .int .i64 (C : Int)], .int .i64 1, .int .i64 (p : Int)] w fun e w' => e = .returned (.int .i64 (1 + max (need t (R) (C - p)) (need t (R) (p)) : Nat)) ∧ TalkM t v B gb mb w' ∧ KeptOff (fun k => k = mb) w w' := by
  have n1 := hk (R) (C - p) (by omega) (by omega) (by omega) (by omega) (by omega) (by omega) (by omega)
  have n2 := hk (R) (p) (by omega) (by omega) (by omega) (by omega) (by omega) (by omega) (by omega)
  have b1 := need_le t (R) (C - p)
  have b2 := need_le t (R) (p)
  obtain ⟨x, hx⟩ : ∃ x, x = need t (R) (C - p) := ⟨_, rfl⟩
  obtain ⟨y, hy⟩ : ∃ y, y = need t (R) (p) := ⟨_, rfl⟩
  rw [← hx] at n1 b1 ⊢
  rw [← hy] at n2 b2 ⊢
  replace hx := Lib.hid hx
  replace hy := Lib.hid hy
  replace n1 := Lib.hid n1
  replace n2 := Lib.hid n2
  have hlt := h.lt
  have hA := (Below.refl w.heap.size w).alloc (Nat.le_refl _) (.cells #[.int .i64 (R : Int), .int .i64 (C : Int)] 81)
  go_enter Try.func129, Try.ntmps129
  go_wp2_with fail
  refine (c_parts1 R C p hR1 hC1 (by omega) hp2 _).mono ?_
  rintro e w1 ⟨rfl, hb1⟩
  have hB1 := hA.trans (hb1.mono (by simp))
  go_wp2_with fail
  obtain ⟨w2, hw2⟩ : ∃ w2, w2 = w1.alloc (.cells #[.int .i64 ((R : Nat) : Int), .int .i64 ((C - p : Nat) : Int), .int .i64 ((R : Nat) : Int), .int .i64 ((p : Nat) : Int)] 130) := ⟨_, rfl⟩
  rw [← hw2]
  have hc2 : w2.heap[w1.heap.size]? = some (.cells #[.int .i64 ((R : Nat) : Int), .int .i64 ((C - p : Nat) : Int), .int .i64 ((R : Nat) : Int), .int .i64 ((p : Nat) : Int)] 130 (0, 0)) := by rw [hw2]; exact heap_alloc_at rfl
  have hB2 : Below w.heap.size w w2 := by rw [hw2]; exact hB1.alloc hB1.size _
  have hz1 := hB1.size
  clear hw2 hb1 hA
  replace hB2 := hB2.drew
  have hT2 := h.below hB2
  have hK2 : KeptOff (fun k => k = mb) w w2.drew := (kept0 hB2).mono fun _ f => f.elim
  replace hc2 : w2.drew.heap[w1.heap.size]? = _ := hc2
  replace h := Lib.hid h
  refine wp_region_vals (by kernel_rfl) [none, none, none, none, none, none, none, none, some 10, none, none, none, none, none, some 0, some 1, some 2, some 3, some 4, some 5, some 6, some 7, some 8, some 9] 10 (by kernel_rfl) (by kernel_rfl) (by kernel_rfl) _ rfl (fun ww => TalkM t v B gb mb ww ∧ KeptOff (fun k => k = mb) w ww ∧ ww.heap[w1.heap.size]? = some (.cells #[.int .i64 ((R : Nat) : Int), .int .i64 ((C - p : Nat) : Int), .int .i64 ((R : Nat) : Int), .int .i64 ((p : Nat) : Int)] 130 (0, 0))) (⟨hT2, hK2, hc2⟩) [.pointer (some ⟨gb, 0, none⟩), .pointer (some ⟨w1.heap.size, 0, none⟩), .agg #[.int .i64 ((R : Nat) : Int), .int .i64 ((C - p : Nat) : Int)], .int .i64 (x : Int), .pointer (some ⟨gb, 0, none⟩), .pointer (some ⟨w1.heap.size, 2, none⟩), .agg #[.int .i64 ((R : Nat) : Int), .int .i64 ((p : Nat) : Int)], .int .i64 (y : Int), .int .i64 (max (x : Int) (y : Int)), .int .i64 (1 + max (x : Int) (y : Int))] ?_ ?_
  · intro i o ho hi u ww hI hd
    obtain ⟨iT, iK, iC⟩ := id hI
    have il := (Array.getElem?_eq_some_iff.1 iC).1
    obtain ⟨y0, y1, y2, y3⟩ := blk4n iC
    replace hI := Lib.hid hI
    rcases i with _ | _ | _ | _ | _ | _ | _ | _ | _ | _ | _ | i
    all_goals try obtain rfl := Option.some.inj ho
    all_goals try simp only [putAll, fillL]
    · go_wp2
      exact ⟨rfl, hI.out⟩
    · go_wp2
      exact ⟨rfl, hI.out⟩
    · have e1 : u 1 = .pointer (some ⟨w1.heap.size, 0, none⟩) := hd 1 (by decide)
      rw [e1]
      go_wp2
      exact ⟨by simp only [putAll, fillL, e1] <;> rfl, hI.out⟩
    · have e0 : u 0 = .pointer (some ⟨gb, 0, none⟩) := hd 0 (by decide)
      rw [e0]
      have e2 : u 2 = .agg #[.int .i64 ((R : Nat) : Int), .int .i64 ((C - p : Nat) : Int)] := hd 2 (by decide)
      rw [e2]
      go_wp2_with fail
      refine (n1.out _ iT).mono ?_
      rintro e wn ⟨rfl, jT, jK⟩
      have hN : Hid ((fun ww => TalkM t v B gb mb ww ∧ KeptOff (fun k => k = mb) w ww ∧ ww.heap[w1.heap.size]? = some (.cells #[.int .i64 ((R : Nat) : Int), .int .i64 ((C - p : Nat) : Int), .int .i64 ((R : Nat) : Int), .int .i64 ((p : Nat) : Int)] 130 (0, 0))) wn) := Lib.hid (⟨jT, iK.trans jK, (jK.block _ il (by omega)).trans iC⟩)
      go_wp2
      exact ⟨by simp only [putAll, fillL, e0, e2] <;> rfl, hN.out⟩
    · go_wp2
      exact ⟨rfl, hI.out⟩
    · go_wp2
      exact ⟨rfl, hI.out⟩
    · have e5 : u 5 = .pointer (some ⟨w1.heap.size, 2, none⟩) := hd 5 (by decide)
      rw [e5]
      go_wp2
      exact ⟨by simp only [putAll, fillL, e5] <;> rfl, hI.out⟩
    · have e4 : u 4 = .pointer (some ⟨gb, 0, none⟩) := hd 4 (by decide)
      rw [e4]
      have e6 : u 6 = .agg #[.int .i64 ((R : Nat) : Int), .int .i64 ((p : Nat) : Int)] := hd 6 (by decide)
      rw [e6]
      go_wp2_with fail
      refine (n2.out _ iT).mono ?_
      rintro e wn ⟨rfl, jT, jK⟩
      have hN : Hid ((fun ww => TalkM t v B gb mb ww ∧ KeptOff (fun k => k = mb) w ww ∧ ww.heap[w1.heap.size]? = some (.cells #[.int .i64 ((R : Nat) : Int), .int .i64 ((C - p : Nat) : Int), .int .i64 ((R : Nat) : Int), .int .i64 ((p : Nat) : Int)] 130 (0, 0))) wn) := Lib.hid (⟨jT, iK.trans jK, (jK.block _ il (by omega)).trans iC⟩)
      go_wp2
      exact ⟨by simp only [putAll, fillL, e4, e6] <;> rfl, hN.out⟩
    · have e3 : u 3 = .int .i64 (x : Int) := hd 3 (by decide)
      rw [e3]
      have e7 : u 7 = .int .i64 (y : Int) := hd 7 (by decide)
      rw [e7]
      by_cases hxy : (x : Int) < (y : Int)
      all_goals first | rw [Int.max_eq_right (Int.le_of_lt hxy)] | rw [Int.max_eq_left (Int.not_lt.1 hxy)]
      all_goals go_wp2
      all_goals exact ⟨by simp only [putAll, fillL, e3, e7] <;> rfl, hI.out⟩
    · have e8 : u 8 = .int .i64 (max (x : Int) (y : Int)) := hd 8 (by decide)
      rw [e8]
      go_wp2
      exact ⟨by simp only [putAll, fillL, e8] <;> rfl, hI.out⟩
    · exact absurd rfl hi
    · simp at ho
  · intro u ww hI hV
    have e0 : u 0 = .pointer (some ⟨gb, 0, none⟩) := hV 0 (by decide) (by decide)
    have e1 : u 1 = .pointer (some ⟨w1.heap.size, 0, none⟩) := hV 1 (by decide) (by decide)
    have e2 : u 2 = .agg #[.int .i64 ((R : Nat) : Int), .int .i64 ((C - p : Nat) : Int)] := hV 2 (by decide) (by decide)
    have e3 : u 3 = .int .i64 (x : Int) := hV 3 (by decide) (by decide)
    have e4 : u 4 = .pointer (some ⟨gb, 0, none⟩) := hV 4 (by decide) (by decide)
    have e5 : u 5 = .pointer (some ⟨w1.heap.size, 2, none⟩) := hV 5 (by decide) (by decide)
    have e6 : u 6 = .agg #[.int .i64 ((R : Nat) : Int), .int .i64 ((p : Nat) : Int)] := hV 6 (by decide) (by decide)
    have e7 : u 7 = .int .i64 (y : Int) := hV 7 (by decide) (by decide)
    have e8 : u 8 = .int .i64 (max (x : Int) (y : Int)) := hV 8 (by decide) (by decide)
    have e9 : u 9 = .int .i64 (1 + max (x : Int) (y : Int)) := hV 9 (by decide) (by decide)
    simp only [putAll, fillL]
    rw [e0, e1, e2, e3, e4, e5, e6, e7, e8, e9]
    clear hV e0 e1 e2 e3 e4 e5 e6 e7 e8 e9
    try simp only [List.getElem_toArray, List.getElem_cons_succ, List.getElem_cons_zero]
    go_wp2
    go_ret
    exact ⟨by rw [show ((1 + max x y : Nat) : Int) = 1 + max (x : Int) (y : Int) by omega]; rfl, hI.1, hI.2.1⟩
def aft0 (t : List (List Int)) (R C p : Nat) : Nat := 1 + max (need t (R - p) C) (need t p C)
def aft1 (t : List (List Int)) (R C p : Nat) : Nat := 1 + max (need t R (C - p)) (need t R p)
theorem need_prog {t : List (List Int)} {R C : Nat} (hp : plB t R C = false) (h0 : 0 < R) (hn : t.length ≤ 4) (hm : wid t ≤ 4) (hR : R < 2 ^ t.length) (hC : C < 2 ^ wid t) :
    need t R C = minL (minL 8 ((spl t.length R).map (aft0 t R C))) ((spl (wid t) C).map (aft1 t R C)) := by
  rw [need_eq t R C (fun e => by omega), if_neg (by rw [hp]; simp)]
  rw [minL_perm ((spl_perm hn hR).map (aft0 t R C)), minL_perm ((spl_perm hm hC).map (aft1 t R C))]
  have e1 : (subs R).map (fun p => 1 + max (need t p C) (need t (R - p) C)) = (subs R).map (aft0 t R C) := List.map_congr_left fun p _ => by unfold aft0; omega
  have e2 : (subs C).map (fun p => 1 + max (need t R p) (need t R (C - p))) = (subs C).map (aft1 t R C) := List.map_congr_left fun p _ => by unfold aft1; omega
  rw [e1, e2]
theorem spl_mem {n R p : Nat} (h : p ∈ spl n R) : 0 < p ∧ p < R ∧ p &&& R = p := by
  unfold spl at h
  rw [List.mem_filter] at h
  simp only [Bool.and_eq_true, bne_iff_ne, beq_iff_eq] at h
  obtain ⟨-, h1, h2, h3⟩ := h
  have : p &&& R ≤ R := Nat.and_le_right
  omega
theorem aft0_le (t : List (List Int)) (R C p : Nat) : aft0 t R C p ≤ 9 := by have := need_le t (R - p) C; have := need_le t p C; unfold aft0; omega
theorem aft1_le (t : List (List Int)) (R C p : Nat) : aft1 t R C p ≤ 9 := by have := need_le t R (C - p); have := need_le t R p; unfold aft1; omega


/-- the least after s speakers -/
def stg (t : List (List Int)) (R C : Nat) : Nat → Nat
  | 0 => 8
  | 1 => minL 8 ((spl t.length R).map (aft0 t R C))
  | _ => minL (minL 8 ((spl t.length R).map (aft0 t R C))) ((spl (wid t) C).map (aft1 t R C))
theorem stg_le (t : List (List Int)) (R C s : Nat) : stg t R C s ≤ 8 := by
  rcases s with _ | _ | s
  · exact Nat.le_refl _
  · exact minL_le _ _
  · exact Nat.le_trans (minL_le _ _) (minL_le _ _)

theorem zeroInt (w : World) : (zeroValue 3).run Try.prog w = .ok (.int .i64 0) w := by kernel_rfl

set_option maxRecDepth 100000 in
set_option maxHeartbeats 8000000 in
theorem c_need_step {t : List (List Int)} {v : Value} {B gb mb s : Nat} (ht : taskB t = true) (hk : NeedK t v B gb mb s) : NeedK t v B gb mb (s + 1) := by
  intro R C hs hR0 hC0 hR1 hC1 hR2 hC2 w h
  obtain ⟨hn, hm, -, -⟩ := taskB_yes ht
  have hlt := h.lt
  have hA := (Below.refl w.heap.size w).alloc (Nat.le_refl _) (.cells #[.int .i64 (R : Int), .int .i64 (C : Int)] 81)
  have hbx0 : (w.alloc (.cells #[.int .i64 (R : Int), .int .i64 (C : Int)] 81)).heap[w.heap.size]? = some (.cells #[.int .i64 (R : Int), .int .i64 (C : Int)] 81 (0, 0)) := heap_alloc_at rfl
  have hTA := h.below hA
  cases hp : plB t R C
  · have hN := need_prog hp hR0 hn.2 hm.2 hR2 hC2
    have hN2 : Hid (stg t R C 2 = need t R C) := Lib.hid hN.symm
    clear hN
    replace hp := Lib.hid hp
    replace hR2 := Lib.hid hR2
    replace hC2 := Lib.hid hC2
    replace ht := Lib.hid ht
    replace h := Lib.hid h
    go_enter Try.func70, Try.ntmps70
    go_wp2_with fail
    refine (c_plain gb v _ t R C _ hTA.1 hTA.rows ht.out (by omega) (by omega)).mono ?_
    rintro e w1 ⟨rfl, hb1⟩
    rw [hp.out]
    have hT := hTA.below hb1
    have hK : KeptOff (fun k => k = mb) w w1 := kept_then ((kept0 hA).mono fun _ f => f.elim) hb1
    have hbx := blk_later hb1 hbx0
    clear hTA hbx0 hA hb1
    obtain ⟨hg1, -, -, -, D, hD, hM⟩ := id hT
    have hkey := kl_key R C (by omega) (by omega)
    obtain ⟨c0, hc0, hrun⟩ : ∃ c0 : Int, D.atKey (kl R C) (.lit (.int .i64 0)) = .lit (.int .i64 c0) ∧ Sem.run Try.prog (Instr.lookup 123 (.map (some mb)) (.agg #[.int .i64 (R : Int), .int .i64 (C : Int)]) true) w1.drew = .ok (.tuple #[.int .i64 c0, .bool (Maps.has D (kl R C))]) w1.drew := by
      have hz0 : plainElem (H := Unit) Try.prog 3 (.int .i64 0) = some (.lit (.int .i64 0), []) := plainElem_int Try.underlying3 (by decide)
      obtain ⟨v0, ps, h1, h2⟩ := hD.drew.look_ok lawK Try.underlying123 (zeroInt _) hz0 hkey
      obtain ⟨c0, rfl, h3, -⟩ := plainElem_int_inv Try.underlying3 h2
      exact ⟨c0, congrArg Prod.fst h3, h1⟩
    have hbl := (Array.getElem?_eq_some_iff.1 hbx).1
    have hgl := hT.lt
    obtain ⟨⟨y0, y1⟩, -⟩ := blk2 hbx
    obtain ⟨⟨g0, g1⟩, -⟩ := blk2 hg1
    cases hhas : Maps.has D (kl R C)
    · rw [hhas] at hrun
      have hmiss := Lib.hid hhas
      clear hhas hc0 hkey hD hM
      go_wp2_with fail
      go_region
      clear hrun y0 y1 g0 g1 hg1
      replace hT := hT.below (Below.refl _ _).drew
      replace hK := kept_then hK (Below.refl _ _).drew
      replace hbx := blk_later (Below.refl _ _).drew hbx
      have hbx0 := hbx
      go_wp2_with fail
      go_loopw [9, 31] (fun l i wr => ∃ q : Nat, q ≤ 2 ∧ i = .int .i64 q ∧ l = .int .i64 (stg t R C q : Int) ∧ TalkM t v B gb mb wr ∧ KeptOff (fun k => k = mb) w wr ∧ wr.heap[w.heap.size]? = some (.cells #[.int .i64 (R : Int), .int .i64 (C : Int)] 81 (0, 0))) (fun _ i _ => 2 - (intOf i).toNat)
      case atStart => exact ⟨0, by omega, rfl, rfl, hT, hK, hbx⟩
      case round =>
        clear hT hK hbx
        obtain ⟨q, hq, rfl, rfl, hT, hK, hbx⟩ := hrel
        have hbl := (Array.getElem?_eq_some_iff.1 hbx).1
        obtain ⟨⟨y0, y1⟩, -⟩ := blk2 hbx
        rcases (by omega : q = 0 ∨ q = 1 ∨ q = 2) with rfl | rfl | rfl
        · skip
          have hls : ∀ x ∈ spl (t.length) R, 0 < x ∧ x < R ∧ x &&& R = x := fun x hx => spl_mem hx
          obtain ⟨ls, hlsd⟩ : ∃ z, z = spl (t.length) R := ⟨_, rfl⟩
          go_wp2_with fail
          refine (c_splits0 gb mb B v t R C hR1 hC1 (by omega) _ hT ht.out).mono ?_
          rintro e w3 ⟨vl, rfl, hvl, hb3⟩
          rw [← hlsd] at hvl hls
          replace hlsd := Lib.hid hlsd
          replace hls := Lib.hid hls
          replace hT := hT.below hb3
          replace hK := kept_then hK hb3
          replace hbx := blk_later hb3 hbx
          obtain ⟨al, cl, e3, hl3, -⟩ := hvl.ints.out
          rw [natL_len] at e3 hl3
          subst e3
          have hvB := hvl.isIn
          go_wp2_with fail
          go_loopw [9, 39] (fun l j wr => ∃ k : Nat, k ≤ ls.length ∧ j = .int .i64 k ∧ l = .int .i64 ((minL (8) ((ls.take k).map (aft0 t R C)) : Nat) : Int) ∧ TalkM t v B gb mb wr ∧ KeptOff (fun k => k = mb) w wr ∧ wr.heap[w.heap.size]? = some (.cells #[.int .i64 (R : Int), .int .i64 (C : Int)] 81 (0, 0)) ∧ OwnI wr (w.heap.size + 1) (.slice al ls.length cl) (natL ls)) (fun _ j _ => ls.length - (intOf j).toNat)
          case atStart => exact ⟨0, Nat.zero_le _, rfl, rfl, hT, hK, hbx, hvl.mono (by have := (Array.getElem?_eq_some_iff.1 hbx0).1; omega)⟩
          case round =>
            clear hT hK hbx hvl hb3
            obtain ⟨k, hkl, rfl, rfl, hT, hK, hbx, hvl⟩ := hrel
            have hbl := (Array.getElem?_eq_some_iff.1 hbx).1
            obtain ⟨⟨y0, y1⟩, -⟩ := blk2 hbx
            have hle8 : minL (8) ((ls.take k).map (aft0 t R C)) ≤ 8 := minL_le _ _
            by_cases hlt : k < ls.length
            · have hdk : decide ((k : Int) < (ls.length : Int)) = true := by simp; omega
              obtain ⟨bl, off, rfl, hb, hcell⟩ := hvl.ints.at k (by rw [natL_len]; exact hlt)
              obtain ⟨p, hp⟩ : ∃ p, p = ls[k] := ⟨_, rfl⟩
              rw [show (natL ls)[k]'(by rw [natL_len]; exact hlt) = (p : Int) by rw [hp]; simp [natL]] at hcell
              obtain ⟨p0, p1, p2⟩ := hls.out p (by rw [hp]; exact List.getElem_mem hlt)
              have hmin : minL (8) ((ls.take (k + 1)).map (aft0 t R C)) = min (minL (8) ((ls.take k).map (aft0 t R C))) (aft0 t R C p) := by
                rw [List.take_succ_eq_append_getElem hlt, List.map_append, List.map_cons, List.map_nil, minL_snoc, ← hp]
              obtain ⟨a, ha⟩ : ∃ a, a = aft0 t R C p := ⟨_, rfl⟩
              have ha9 : a ≤ 9 := ha ▸ aft0_le t R C p
              obtain ⟨m, hm9⟩ : ∃ m, m = minL (8) ((ls.take k).map (aft0 t R C)) := ⟨_, rfl⟩
              rw [← hm9] at hle8 hmin ⊢
              rw [← ha] at hmin
              have hmn : (((minL (8) ((ls.take (k + 1)).map (aft0 t R C)) : Nat)) : Int) = min (m : Int) (a : Int) := by rw [hmin]; omega
              replace hmn := Lib.hid hmn
              replace hm9 := Lib.hid hm9
              replace hp := Lib.hid hp
              clear hmin
              go_wp2_with fail
              refine (c_after0 hk R C p (by omega) hR0 hC0 hR1 hC1 hR2.out hC2.out p0 p1 p2 _ hT).mono ?_
              rintro e w4 ⟨rfl, hT4, hK4⟩
              rw [show ((1 + max _ _ : Nat) : Int) = (a : Int) by rw [ha]; rfl]
              replace ha := Lib.hid ha
              have hK5 := hK.trans hK4
              have hbx5 := (hK4.block _ hbl (by omega)).trans hbx
              have hvl5 := hvl.off hK4 (fun g e f => by have h1 := OwnS.lt hvl g e; omega)
              clear hT hK hbx hvl y0 y1 hcell
              by_cases hxy : (a : Int) < (m : Int)
              · rw [Int.min_eq_right (Int.le_of_lt hxy)] at hmn
                go_wp2
                go_roundw
                case rel => first | exact ⟨k + 1, by omega, by go_num, by rw [hmn.out], hT4, hK5, hbx5, hvl5⟩ | ((repeat apply Exists.intro); exact ⟨⟨k + 1, by omega, rfl, by rw [hmn.out], hT4, hK5, hbx5, hvl5⟩, rfl⟩)
                case measure => simp [intOf]; omega
              · rw [Int.min_eq_left (Int.not_lt.1 hxy)] at hmn
                go_wp2
                go_roundw
                case rel => first | exact ⟨k + 1, by omega, by go_num, by rw [hmn.out], hT4, hK5, hbx5, hvl5⟩ | ((repeat apply Exists.intro); exact ⟨⟨k + 1, by omega, rfl, by rw [hmn.out], hT4, hK5, hbx5, hvl5⟩, rfl⟩)
                case measure => simp [intOf]; omega
            · obtain rfl : k = ls.length := by omega
              rw [List.take_length] at hle8 ⊢
              have hS : Hid (minL (8) (ls.map (aft0 t R C)) = stg t R C (0 + 1)) := Lib.hid (by rw [hlsd.out]; rfl)
              rw [hS.out] at hle8 ⊢
              go_wp2
              go_roundw
              case rel => first | exact ⟨0 + 1, by omega, by go_num, rfl, hT, hK, hbx⟩ | ((repeat apply Exists.intro); exact ⟨⟨0 + 1, by omega, rfl, rfl, hT, hK, hbx⟩, rfl⟩)
              case measure => simp [intOf]
        · skip
          have hls : ∀ x ∈ spl (wid t) C, 0 < x ∧ x < C ∧ x &&& C = x := fun x hx => spl_mem hx
          obtain ⟨ls, hlsd⟩ : ∃ z, z = spl (wid t) C := ⟨_, rfl⟩
          go_wp2_with fail
          refine (c_splits1 gb mb B v t R C hR1 hC1 (by omega) _ hT ht.out).mono ?_
          rintro e w3 ⟨vl, rfl, hvl, hb3⟩
          rw [← hlsd] at hvl hls
          replace hlsd := Lib.hid hlsd
          replace hls := Lib.hid hls
          replace hT := hT.below hb3
          replace hK := kept_then hK hb3
          replace hbx := blk_later hb3 hbx
          obtain ⟨al, cl, e3, hl3, -⟩ := hvl.ints.out
          rw [natL_len] at e3 hl3
          subst e3
          have hvB := hvl.isIn
          go_wp2_with fail
          go_loopw [9, 39] (fun l j wr => ∃ k : Nat, k ≤ ls.length ∧ j = .int .i64 k ∧ l = .int .i64 ((minL (stg t R C 1) ((ls.take k).map (aft1 t R C)) : Nat) : Int) ∧ TalkM t v B gb mb wr ∧ KeptOff (fun k => k = mb) w wr ∧ wr.heap[w.heap.size]? = some (.cells #[.int .i64 (R : Int), .int .i64 (C : Int)] 81 (0, 0)) ∧ OwnI wr (w.heap.size + 1) (.slice al ls.length cl) (natL ls)) (fun _ j _ => ls.length - (intOf j).toNat)
          case atStart => exact ⟨0, Nat.zero_le _, rfl, rfl, hT, hK, hbx, hvl.mono (by have := (Array.getElem?_eq_some_iff.1 hbx0).1; omega)⟩
          case round =>
            clear hT hK hbx hvl hb3
            obtain ⟨k, hkl, rfl, rfl, hT, hK, hbx, hvl⟩ := hrel
            have hbl := (Array.getElem?_eq_some_iff.1 hbx).1
            obtain ⟨⟨y0, y1⟩, -⟩ := blk2 hbx
            have hle8 : minL (stg t R C 1) ((ls.take k).map (aft1 t R C)) ≤ stg t R C 1 := minL_le _ _
            by_cases hlt : k < ls.length
            · have hdk : decide ((k : Int) < (ls.length : Int)) = true := by simp; omega
              obtain ⟨bl, off, rfl, hb, hcell⟩ := hvl.ints.at k (by rw [natL_len]; exact hlt)
              obtain ⟨p, hp⟩ : ∃ p, p = ls[k] := ⟨_, rfl⟩
              rw [show (natL ls)[k]'(by rw [natL_len]; exact hlt) = (p : Int) by rw [hp]; simp [natL]] at hcell
              obtain ⟨p0, p1, p2⟩ := hls.out p (by rw [hp]; exact List.getElem_mem hlt)
              have hmin : minL (stg t R C 1) ((ls.take (k + 1)).map (aft1 t R C)) = min (minL (stg t R C 1) ((ls.take k).map (aft1 t R C))) (aft1 t R C p) := by
                rw [List.take_succ_eq_append_getElem hlt, List.map_append, List.map_cons, List.map_nil, minL_snoc, ← hp]
              obtain ⟨a, ha⟩ : ∃ a, a = aft1 t R C p := ⟨_, rfl⟩
              have ha9 : a ≤ 9 := ha ▸ aft1_le t R C p
              obtain ⟨m, hm9⟩ : ∃ m, m = minL (stg t R C 1) ((ls.take k).map (aft1 t R C)) := ⟨_, rfl⟩
              rw [← hm9] at hle8 hmin ⊢
              rw [← ha] at hmin
              have hmn : (((minL (stg t R C 1) ((ls.take (k + 1)).map (aft1 t R C)) : Nat)) : Int) = min (m : Int) (a : Int) := by rw [hmin]; omega
              replace hmn := Lib.hid hmn
              replace hm9 := Lib.hid hm9
              replace hp := Lib.hid hp
              clear hmin
              go_wp2_with fail
              refine (c_after1 hk R C p (by omega) hR0 hC0 hR1 hC1 hR2.out hC2.out p0 p1 p2 _ hT).mono ?_
              rintro e w4 ⟨rfl, hT4, hK4⟩
              rw [show ((1 + max _ _ : Nat) : Int) = (a : Int) by rw [ha]; rfl]
              replace ha := Lib.hid ha
              have hK5 := hK.trans hK4
              have hbx5 := (hK4.block _ hbl (by omega)).trans hbx
              have hvl5 := hvl.off hK4 (fun g e f => by have h1 := OwnS.lt hvl g e; omega)
              clear hT hK hbx hvl y0 y1 hcell
              by_cases hxy : (a : Int) < (m : Int)
              · rw [Int.min_eq_right (Int.le_of_lt hxy)] at hmn
                go_wp2
                go_roundw
                case rel => first | exact ⟨k + 1, by omega, by go_num, by rw [hmn.out], hT4, hK5, hbx5, hvl5⟩ | ((repeat apply Exists.intro); exact ⟨⟨k + 1, by omega, rfl, by rw [hmn.out], hT4, hK5, hbx5, hvl5⟩, rfl⟩)
                case measure => simp [intOf]; omega
              · rw [Int.min_eq_left (Int.not_lt.1 hxy)] at hmn
                go_wp2
                go_roundw
                case rel => first | exact ⟨k + 1, by omega, by go_num, by rw [hmn.out], hT4, hK5, hbx5, hvl5⟩ | ((repeat apply Exists.intro); exact ⟨⟨k + 1, by omega, rfl, by rw [hmn.out], hT4, hK5, hbx5, hvl5⟩, rfl⟩)
                case measure => simp [intOf]; omega
            · obtain rfl : k = ls.length := by omega
              rw [List.take_length] at hle8 ⊢
              have hS : Hid (minL (stg t R C 1) (ls.map (aft1 t R C)) = stg t R C (1 + 1)) := Lib.hid (by rw [hlsd.out]; rfl)
              rw [hS.out] at hle8 ⊢
              go_wp2
              go_roundw
              case rel => first | exact ⟨1 + 1, by omega, by go_num, rfl, hT, hK, hbx⟩ | ((repeat apply Exists.intro); exact ⟨⟨1 + 1, by omega, rfl, rfl, hT, hK, hbx⟩, rfl⟩)
              case measure => simp [intOf]
        · rw [hN2.out]
          obtain ⟨hg1, -, -, -, D, hD, hM⟩ := id hT
          obtain ⟨⟨g0, g1⟩, -⟩ := blk2 hg1
          have hgl := hT.lt
          have hkey := kl_key R C (by omega) (by omega)
          have hnl := need_le t R C
          obtain ⟨wd, hwd⟩ : ∃ wd, wd = wr.drew := ⟨_, rfl⟩
          have hTd : TalkM t v B gb mb wd := by rw [hwd]; exact hT.below (Below.refl _ _).drew
          have hKd : KeptOff (fun k => k = mb) w wd := by rw [hwd]; exact kept_then hK (Below.refl _ _).drew
          replace hD : wd.ownsMap Try.prog 81 (plainElem (H := Unit) Try.prog 3) mb 256 D := by rw [hwd]; exact hD.drew
          replace y0 : wd.cell? ⟨w.heap.size, 0, none⟩ = some (.int .i64 (R : Int)) := by rw [hwd]; exact y0
          replace y1 : wd.cell? ⟨w.heap.size, 1, none⟩ = some (.int .i64 (C : Int)) := by rw [hwd]; exact y1
          replace g1 : wd.cell? ⟨gb, 1, none⟩ = some (.map (some mb)) := by rw [hwd]; exact g1
          replace hbl : w.heap.size < wd.heap.size := by rw [hwd]; exact hbl
          replace hgl := hTd.lt
          replace hwd := Lib.hid hwd
          go_wp2_with fail
          refine wp_region_vals (by kernel_rfl) [none, none, none, none, none, none, none, none, none, none, none, none, none, none, none, none, none, none, none, none, none, none, none, none, none, none, none, none, none, none, none, none, none, none, none, none, none, none, none, none, none, none, none, none, none, none, none, none, none, none, none, none, some 0, some 1, some 2, some 3, some 4, some 5] 6 (by kernel_rfl) (by kernel_rfl) (by kernel_rfl) _ rfl (fun ww => ww = wd) (hwd.out.symm) [.pointer (some ⟨gb, 0, none⟩), .pointer (some ⟨gb, 0, none⟩), .pointer (some ⟨gb, 1, none⟩), .map (some mb), .agg #[.int .i64 (R : Int), .int .i64 (C : Int)], .int .i64 (need t R C : Int)] ?_ ?_
          · intro i o ho hi u ww hI hd
            obtain rfl : wd = ww := hI.symm
            clear hI
            rcases i with _ | _ | _ | _ | _ | _ | _ | i
            all_goals try obtain rfl := Option.some.inj ho
            all_goals try simp only [putAll, fillL]
            · go_wp2
              exact ⟨rfl, rfl⟩
            · have e0 : u 0 = .pointer (some ⟨gb, 0, none⟩) := hd 0 (by decide)
              rw [e0]
              go_wp2
              exact ⟨by simp only [putAll, fillL, e0] <;> rfl, rfl⟩
            · have e1 : u 1 = .pointer (some ⟨gb, 0, none⟩) := hd 1 (by decide)
              rw [e1]
              go_wp2
              exact ⟨by simp only [putAll, fillL, e1] <;> rfl, rfl⟩
            · have e2 : u 2 = .pointer (some ⟨gb, 1, none⟩) := hd 2 (by decide)
              rw [e2]
              go_wp2
              exact ⟨by simp only [putAll, fillL, e2] <;> rfl, rfl⟩
            · go_wp2
              exact ⟨rfl, rfl⟩
            · go_wp2
              exact ⟨rfl, rfl⟩
            · exact absurd rfl hi
            · simp at ho
          · intro u ww hI hV
            have e0 : u 0 = .pointer (some ⟨gb, 0, none⟩) := hV 0 (by decide) (by decide)
            have e1 : u 1 = .pointer (some ⟨gb, 0, none⟩) := hV 1 (by decide) (by decide)
            have e2 : u 2 = .pointer (some ⟨gb, 1, none⟩) := hV 2 (by decide) (by decide)
            have e3 : u 3 = .map (some mb) := hV 3 (by decide) (by decide)
            have e4 : u 4 = .agg #[.int .i64 (R : Int), .int .i64 (C : Int)] := hV 4 (by decide) (by decide)
            have e5 : u 5 = .int .i64 (need t R C : Int) := hV 5 (by decide) (by decide)
            simp only [putAll, fillL]
            rw [e0, e1, e2, e3, e4, e5]
            clear hV e0 e1 e2 e3 e4 e5
            try simp only [List.getElem_toArray, List.getElem_cons_succ, List.getElem_cons_zero]
            obtain rfl : wd = ww := hI.symm
            clear hI
            have wf : (Lit.int .i64 (need t R C : Int)).wf = true := WalkArith.wf_i64 (by omega)
            go_wp2_with (at_mapUpdate; refine wpList_mapUpdate_own _ rfl _ _ _ 123 rfl 81 3 lawK Try.underlying123 _ mb 256 _ rfl hD (by unfold maxLen; omega) _ _ _ rfl rfl hkey _ [] (plainElem_int Try.underlying3 wf) ?_; intro w5 hown5 hgrow5)
            obtain ⟨hT5, hK5⟩ := hTd.put hgrow5 hown5 (memo_put hM (hD.tidy lawK) R C hR1 hC1)
            have hK6 := hKd.trans hK5
            go_wp2
            go_ret
            exact ⟨rfl, hT5, hK6⟩
    · have hc := hM.1 R C hR1 hC1 hhas
      rw [hc0] at hc
      obtain rfl : c0 = (need t R C : Int) := by injection hc with e; injection e
      rw [hhas] at hrun
      replace hhas := Lib.hid hhas
      clear hc0 hc hkey hD hM
      go_wp2_with fail
      go_region
      go_wp2
      go_ret
      exact ⟨rfl, hT.below (Below.refl _ _).drew, kept_then hK (Below.refl _ _).drew⟩
  · have hN : Hid (need t R C = 0) := Lib.hid (by rw [need_eq t R C (fun e => by omega), if_pos hp])
    replace hp := Lib.hid hp
    go_enter Try.func70, Try.ntmps70
    go_wp2_with fail
    refine (c_plain gb v _ t R C _ hTA.1 hTA.rows ht (by omega) (by omega)).mono ?_
    rintro e w1 ⟨rfl, hb1⟩
    rw [hp.out]
    go_wp2
    go_ret
    exact ⟨by rw [hN.out]; rfl, hTA.below hb1, kept_then ((kept0 hA).mono fun _ f => f.elim) hb1⟩
theorem c_need {t : List (List Int)} (ht : taskB t = true) (v : Value) (B gb mb : Nat) : ∀ s, NeedK t v B gb mb s
  | 0 => fun R C h h1 => by omega
  | s + 1 => c_need_step ht (c_need ht v B gb mb s)

end Go.Proofs.Ytpieaeokbblflaa
