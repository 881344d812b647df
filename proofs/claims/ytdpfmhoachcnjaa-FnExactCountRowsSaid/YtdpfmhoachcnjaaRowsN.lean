/- How many different rows a task has; conditions: none. -/
import Derived.Test.YtdpfmhoachcnjaaPlain
import Derived.Test.YtdpfmhoachcnjaaI64
import Derived.Maps.OwnSet
namespace Go.Proofs.Ytdpfmhoachcnjaa
open Go.RowKit Go.Maps

theorem range_any_succR (p : Nat → Bool) (k : Nat) : (List.range (k + 1)).any p = ((List.range k).any p || p k) := by
  rw [List.range_succ, List.any_append]; simp
def sameL (a b : List Int) : Bool := a == b
def codeR (t : List (List Int)) (i : Nat) : Nat := setN (t.getD i []) 0 0
def freshR (t : List (List Int)) (i : Nat) : Bool := (List.range i).all fun j => !sameL (t.getD i []) (t.getD j [])
def rowsN (t : List (List Int)) : Int := if taskB t then (cntN (freshR t) t.length : Int) else 0
theorem rowsN_no {t : List (List Int)} (h : taskB t = false) : rowsN t = 0 := by simp [rowsN, h]
theorem rowsN_yes {t : List (List Int)} (h : taskB t = true) : rowsN t = (cntN (freshR t) t.length : Int) := by simp [rowsN, h]
theorem cnt_no {p : Nat → Bool} {k : Nat} (h : p k = false) : cntN p (k + 1) = cntN p k := by simp [cntN, h]
theorem cnt_yes {p : Nat → Bool} {k : Nat} (h : p k = true) : cntN p (k + 1) = cntN p k + 1 := by simp [cntN, h]
theorem setN_inj {a b : List Int} (hl : a.length = b.length) (ha : ∀ x ∈ a, x = 0 ∨ x = 1) (hb : ∀ x ∈ b, x = 0 ∨ x = 1) (h : setN a 0 0 = setN b 0 0) : a = b := by
  refine List.ext_getElem hl fun i h1 h2 => ?_
  have e1 := setN_test a 0 0 i ha
  have e2 := setN_test b 0 0 i hb
  rw [h, e2] at e1
  simp only [Nat.zero_testBit, Bool.false_or, Nat.zero_le, decide_true, Bool.true_and, Nat.sub_zero, List.getD, List.getElem?_eq_getElem h1, List.getElem?_eq_getElem h2, Option.getD_some] at e1
  have a1 := ha _ (List.getElem_mem h1)
  have b1 := hb _ (List.getElem_mem h2)
  have e3 : (b[i] = 1) ↔ (a[i] = 1) := by simpa using e1
  omega
theorem task_row {t : List (List Int)} (ht : taskB t = true) (i : Nat) (hi : i < t.length) : (t.getD i []).length = wid t ∧ (∀ x ∈ t.getD i [], x = 0 ∨ x = 1) ∧ t.getD i [] = t[i] := by
  obtain ⟨-, -, h3, h4⟩ := taskB_yes ht
  have e : t.getD i [] = t[i] := by simp [List.getD, hi]
  rw [e]
  refine ⟨h3 i hi, fun x hx => ?_, rfl⟩
  obtain ⟨j, hj, rfl⟩ := List.getElem_of_mem hx
  exact h4 i hi j hj
theorem code_same {t : List (List Int)} (ht : taskB t = true) (i j : Nat) (hi : i < t.length) (hj : j < t.length) : ((codeR t j : Int) == (codeR t i : Int)) = sameL (t.getD i []) (t.getD j []) := by
  obtain ⟨a1, a2, -⟩ := task_row ht i hi
  obtain ⟨b1, b2, -⟩ := task_row ht j hj
  unfold codeR sameL
  rw [Bool.eq_iff_iff, beq_iff_eq, beq_iff_eq]
  constructor
  · intro h; exact setN_inj (by omega) a2 b2 (by omega)
  · intro h; rw [h]
/-- what the map says behind k rows -/
def SetD (t : List (List Int)) (k : Nat) (D : DataW Unit) : Prop := Maps.size D = cntN (freshR t) k ∧ ∀ c : Int, Maps.has D (.int .i64 c) = (List.range k).any fun j => (codeR t j : Int) == c
theorem setD_zero (t : List (List Int)) : SetD t 0 (.map []) := ⟨rfl, fun _ => rfl⟩
theorem setD_put {t : List (List Int)} {k : Nat} {D : DataW Unit} (ht : taskB t = true) (hk : k < t.length) (h : SetD t k D) (hT : Tidy D) (hI : IsMap D) (hK : WideAt.IsKeyLit (.int .i64 (codeR t k : Int))) (d : DataW Unit) : SetD t (k + 1) (D.put (.int .i64 (codeR t k : Int)) d) := by
  obtain ⟨h1, h2⟩ := h
  have hfr : freshR t k = !((List.range k).any fun j => (codeR t j : Int) == (codeR t k : Int)) := by
    unfold freshR
    rw [List.not_any_eq_all_not]
    rw [Bool.eq_iff_iff, List.all_eq_true, List.all_eq_true]
    constructor
    · intro h j hj; rw [code_same ht k j hk (by have := List.mem_range.1 hj; omega)]; exact h j hj
    · intro h j hj; rw [← code_same ht k j hk (by have := List.mem_range.1 hj; omega)]; exact h j hj
  refine ⟨?_, fun c => ?_⟩
  · rw [size_put hT, h2, h1]
    cases hx : (List.range k).any fun j => (codeR t j : Int) == (codeR t k : Int)
    · rw [hx] at hfr
      rw [cnt_yes (by rw [hfr]; rfl)]
      rfl
    · rw [hx] at hfr
      rw [cnt_no (by rw [hfr]; rfl)]
      rfl
  · rw [range_any_succR]
    by_cases hc : c = (codeR t k : Int)
    · subst hc
      rw [has_put_same hI hK]
      simp
    · rw [has_put_other (by intro e; cases e; exact hc rfl), h2]
      have : ((codeR t k : Int) == c) = false := by simp; intro e; exact hc e.symm
      rw [this, Bool.or_false]

theorem c_l1Same (v u : Value) (a b : List Int) (w : World) (h : Ints w v a) (g : Ints w u b) :
    Calls Try.prog 72 #[v, u] w fun e w' => e = .returned (.bool (sameL a b)) ∧ ∃ m, w' = w.drewN m := by
  obtain ⟨ad, cap, rfl, hl, -⟩ := h.out
  obtain ⟨ad2, cap2, rfl, hl2, -⟩ := g.out
  cases hd : ((a.length : Int) != (b.length : Int))
  · have hlen : a.length = b.length := by simp at hd; omega
    have hend : Hid (a.take a.length = b.take a.length → sameL a b = true) := Lib.hid fun h => by
      rw [List.take_length, hlen, List.take_length] at h; simp [sameL, h]
    have hle : a.length ≤ b.length ∧ b.length ≤ a.length := by omega
    clear hlen
    go_enter Try.func72, Try.ntmps72
    go_wp2_with fail
    go_loopw [5] (fun i wr => ∃ k : Nat, k ≤ a.length ∧ i = .int .i64 k ∧ Hid (a.take k = b.take k) ∧ Hid (∃ m, wr = w.drewN m)) (fun i _ => a.length - (intOf i).toNat)
    case atStart => exact ⟨0, Nat.zero_le _, rfl, Lib.hid rfl, 0, rfl⟩
    case round =>
      obtain ⟨k, hk, rfl, hc, hB⟩ := hrel
      obtain ⟨m, rfl⟩ := hB.out
      clear hB
      by_cases hlt : k < a.length
      · obtain ⟨bl, off, rfl, hb, hcell⟩ := h.at k hlt
        have hlt2 : k < b.length := by omega
        obtain ⟨bl2, off2, rfl, hb2, hcell2⟩ := g.at k hlt2
        cases hne : (a[k] != b[k])
        · have hc2 : Hid (a.take (k + 1) = b.take (k + 1)) := Lib.hid (by
            rw [List.take_succ_eq_append_getElem hlt, List.take_succ_eq_append_getElem hlt2, hc.out, show a[k] = b[k] by simpa using hne])
          go_wp2_with fail
          go_quiet (fail)
          all_goals go_wp2
          all_goals go_roundw
          case rel => exact ⟨k + 1, by omega, by go_num, hc2, Lib.hid ⟨_, by first | rfl | exact World.drewN_drewN _ _ _⟩⟩
          case measure => simp [intOf]; omega
        · have hG : Hid (sameL a b = false) := Lib.hid (by
            unfold sameL
            rw [beq_eq_false_iff_ne]
            intro e
            subst e
            simp at hne)
          replace hne2 := Lib.hid hne
          go_wp2_with fail
          go_quiet (fail)
          all_goals go_wp2
          go_ret
          exact ⟨by rw [hG.out]; rfl, _, by first | rfl | exact World.drewN_drewN _ _ _⟩
      · obtain rfl : k = a.length := by omega
        have hG := Lib.hid (hend.out hc.out)
        go_wp2
        go_ret
        exact ⟨by rw [hG.out]; rfl, _, rfl⟩
  · have hF : Hid (sameL a b = false) := Lib.hid (by
      unfold sameL
      rw [beq_eq_false_iff_ne]
      intro e
      subst e
      simp at hd)
    go_enter Try.func72, Try.ntmps72
    go_wp2
    go_ret
    exact ⟨by rw [hF.out]; rfl, 0, rfl⟩

set_option maxRecDepth 100000 in
set_option maxHeartbeats 2000000 in
theorem c_spec_CountRows (v : Value) (t : List (List Int)) (w : World) (h : Rows2 w v t) :
    Calls Try.prog 23 #[v] w fun e w' => e = .returned (.tuple #[.int .i64 (rowsN t), .bool (taskB t)]) ∧ Below w.heap.size w w' := by
  obtain ⟨ad, cap, rfl, hl⟩ := h.out
  cases ht : taskB t
  · have hF := Lib.hid (rowsN_no ht)
    replace ht := Lib.hid ht
    go_enter Try.func23, Try.ntmps23
    go_wp2_with fail
    refine (c_l8TaskB _ t _ h).mono ?_
    rintro e w1 ⟨rfl, hb1⟩
    rw [ht.out]
    go_wp2
    go_ret2
    exact ⟨by rw [hF.out]; rfl, hb1⟩
  · have hF := Lib.hid (rowsN_yes ht)
    obtain ⟨ht1, -, -, -⟩ := taskB_yes ht
    have hget : Hid (∀ i (hi : i < t.length), t.getD i [] = t[i]) := Lib.hid fun i hi => (task_row ht i hi).2.2
    replace ht := Lib.hid ht
    go_enter Try.func23, Try.ntmps23
    go_wp2_with fail
    refine (c_l8TaskB _ t _ h).mono ?_
    rintro e w1 ⟨rfl, hb1⟩
    rw [ht.out]
    go_wp2_with fail
    go_loopw [4, 5] (fun m j wr => ∃ k : Nat, k ≤ t.length ∧ j = .int .i64 k ∧ m = .int .i64 (cntN (freshR t) k : Int) ∧ Below w.heap.size w wr) (fun _ j _ => t.length - (intOf j).toNat)
    case atStart => exact ⟨0, Nat.zero_le _, rfl, rfl, hb1⟩
    case round =>
      clear hb1
      obtain ⟨k, hk, rfl, rfl, hB⟩ := hrel
      have hcl := cntN_le (freshR t) k
      by_cases hltk : k < t.length
      · obtain ⟨wo, rfl⟩ : ∃ wo : World, wo = wr := ⟨_, rfl⟩
        have hd : decide ((k : Int) < (t.length : Int)) = true := by simp; omega
        go_wp2
        go_loopw [6, 7] (fun f j wr => ∃ l : Nat, l ≤ k ∧ j = .int .i64 l ∧ f = .bool ((List.range l).all fun j => !sameL (t.getD k []) (t.getD j [])) ∧ Hid (∃ m, wr = wo.drewN m)) (fun _ j _ => k - (intOf j).toNat)
        case atStart => exact ⟨0, Nat.zero_le _, rfl, rfl, 0, rfl⟩
        case round =>
          obtain ⟨l, hl', rfl, rfl, hBo⟩ := hrel
          obtain ⟨m, rfl⟩ := hBo.out
          clear hBo
          by_cases hltl : l < k
          · have hd2 : decide ((l : Int) < (k : Int)) = true := by simp; omega
            have hltl2 : l < t.length := by omega
            have hs := Lib.hid (range_all_succ (fun j => !sameL (t.getD k []) (t.getD j [])) l)
            cases hx : (List.range l).all fun j => !sameL (t.getD k []) (t.getD j [])
            · have hs2 : Hid (((List.range (l + 1)).all fun j => !sameL (t.getD k []) (t.getD j [])) = false) := Lib.hid (by rw [hs.out, hx]; rfl)
              replace hx := Lib.hid hx
              go_wp2_with fail
              go_quiet (fail)
              all_goals go_wp2
              all_goals go_roundw
              case rel => exact ⟨l + 1, by omega, by go_num, by rw [hs2.out], Lib.hid ⟨_, by first | rfl | exact World.drewN_drewN _ _ _⟩⟩
              case measure => simp [intOf]; omega
            · have hs2 : Hid (((List.range (l + 1)).all fun j => !sameL (t.getD k []) (t.getD j [])) = !sameL t[k] t[l]) := Lib.hid (by rw [hs.out, hx, hget.out k hltk, hget.out l hltl2]; rfl)
              replace hx := Lib.hid hx
              obtain ⟨bl, off, a0, c0, e1, hb0, hcell0, hi0⟩ := (h.below hB).at k hltk
              cases e1
              obtain ⟨bl, off, a1, c1, e1, hb1, hcell1, hi1⟩ := (h.below hB).at l hltl2
              cases e1
              go_wp2_with fail
              go_quiet ((go_at_call 72; exact quiet_addN (c_l1Same _ _ t[k] t[l] _ (hi0.below (below_drewN (Below.refl _ _) _)) (hi1.below (below_drewN (Below.refl _ _) _)))))
              all_goals go_wp2
              all_goals go_roundw
              case rel => exact ⟨l + 1, by omega, by go_num, by rw [hs2.out], Lib.hid ⟨_, by first | rfl | exact World.drewN_drewN _ _ _⟩⟩
              case measure => simp [intOf]; omega
          · obtain rfl : l = k := by omega
            have hBw := below_drewN hB m
            cases hx : (List.range l).all fun j => !sameL (t.getD l []) (t.getD j [])
            · have hn := Lib.hid (cnt_no (p := freshR t) (k := l) hx)
              replace hx := Lib.hid hx
              go_wp2
              go_roundw
              case rel => exact ⟨l + 1, by omega, by go_num, by rw [hn.out], hBw⟩
              case measure => simp [intOf]; omega
            · have hn := Lib.hid (cnt_yes (p := freshR t) (k := l) hx)
              replace hx := Lib.hid hx
              go_wp2
              go_roundw
              case rel => exact ⟨l + 1, by omega, by go_num, by rw [hn.out]; go_num, hBw⟩
              case measure => simp [intOf]; omega
      · obtain rfl : k = t.length := by omega
        go_wp2
        go_ret2
        exact ⟨by rw [hF.out]; rfl, hB⟩

theorem or_shl3 (m q k : Nat) (hm : m < 4096) (hq : q < 2) (hk : k < 12) : bits BinOp.or IntKind.i64 (m : Int) (wrap64 ((q : Int) * 2 ^ k)) = ((m ||| q <<< k : Nat) : Int) := by
  have h : ∀ q : Nat, q < 2 → ∀ k : Nat, k < 12 → wrap64 ((q : Int) * 2 ^ k) = ((q <<< k : Nat) : Int) ∧ q <<< k ≤ 4096 := by decide +kernel
  obtain ⟨h1, h2⟩ := h q hq k hk
  rw [h1, i64_or_nat _ _ (by omega) (by omega)]

set_option maxRecDepth 100000 in
set_option maxHeartbeats 4000000 in
theorem c_impl_CountRows (v : Value) (t : List (List Int)) (w : World) (h : Rows2 w v t) :
    Calls Try.prog 24 #[v] w fun e w' => e = .returned (.tuple #[.int .i64 (rowsN t), .bool (taskB t)]) ∧ Below w.heap.size w w' := by
  obtain ⟨ad, cap, rfl, hl⟩ := h.out
  cases ht : taskB t
  · have hF := Lib.hid (rowsN_no ht)
    replace ht := Lib.hid ht
    go_enter Try.func24, Try.ntmps24
    go_wp2_with fail
    refine (c_impl_IsTask _ t _ h).mono ?_
    rintro e _ ⟨rfl, rfl⟩
    rw [ht.out]
    go_wp2
    go_ret2
    exact ⟨by rw [hF.out]; rfl, Below.refl _ _⟩
  · have hF := Lib.hid (rowsN_yes ht)
    obtain ⟨ht1, ht2, hlen, h01⟩ := taskB_yes ht
    have hstep := fun (k : Nat) (D : DataW Unit) (hk : k < t.length) (h : SetD t k D) (hT : Tidy D) (hI : IsMap D) (hK : WideAt.IsKeyLit (.int .i64 (codeR t k : Int))) (d : DataW Unit) => setD_put ht hk h hT hI hK d
    have hrow := fun i hi => task_row ht i hi
    have law : Keyed Try.prog 3 := int_keyed Try.underlying3
    replace hstep := Lib.hid hstep
    replace hrow := Lib.hid hrow
    replace hlen := Lib.hid hlen
    replace h01 := Lib.hid h01
    replace ht := Lib.hid ht
    have hmm := @run_makeMap Try.prog
    have hown0 := World.ownsMap_made (H := Unit) w Try.prog 3 (plainElem Try.prog 4)
    go_enter Try.func24, Try.ntmps24
    go_wp2_with fail
    refine (c_impl_IsTask _ t _ h).mono ?_
    rintro e _ ⟨rfl, rfl⟩
    rw [ht.out]
    go_wp2_with fail
    go_loopw [16] (fun j wr => ∃ k : Nat, k ≤ t.length ∧ j = .int .i64 k ∧ Hid (∃ D, wr.ownsMap Try.prog 3 (plainElem (H := Unit) Try.prog 4) w.heap.size k D ∧ SetD t k D) ∧ Below w.heap.size w wr) (fun j _ => t.length - (intOf j).toNat)
    case atStart => exact ⟨0, Nat.zero_le _, rfl, Lib.hid ⟨_, hown0, setD_zero t⟩, (Below.refl _ _).alloc (Nat.le_refl _) _⟩
    case round =>
      obtain ⟨k, hk, rfl, hD, hB⟩ := hrel
      by_cases hltk : k < t.length
      · obtain ⟨wo, rfl⟩ : ∃ wo : World, wo = wr := ⟨_, rfl⟩
        obtain ⟨bl, off, a0, c0, rfl, hb0, hcell0, hi0⟩ := (h.below hB).at k hltk
        obtain ⟨r1, r2, r3⟩ := hrow.out k hltk
        rw [← r3] at hcell0 hi0
        obtain ⟨r, hr⟩ : ∃ r, r = t.getD k [] := ⟨_, rfl⟩
        rw [← hr] at hcell0 hi0 r1 r2
        have hcode : codeR t k = setN r 0 0 := by unfold codeR; rw [hr]
        replace hr := Lib.hid hr
        replace r3 := Lib.hid r3
        replace r2 := Lib.hid r2
        have hr4 : 1 ≤ r.length ∧ r.length ≤ 4 := by omega
        have hd : decide ((k : Int) < (t.length : Int)) = true := by simp; omega
        replace r1 := Lib.hid r1
        go_wp2
        go_loop [7, 22] (fun m i => ∃ j : Nat, j ≤ r.length ∧ i = .int .i64 j ∧ m = .int .i64 ((setN (r.take j) 0 0 : Nat) : Int)) (fun _ i => r.length - (intOf i).toNat)
        case atStart => exact ⟨0, Nat.zero_le _, rfl, rfl⟩
        case round =>
          obtain ⟨j, hj, rfl, rfl⟩ := hrel
          by_cases hltj : j < r.length
          · obtain ⟨bi, oi, rfl, hbi, hcelli⟩ := hi0.at j hltj
            have hm : setN (r.take j) 0 0 < 2 ^ 12 := setN_lt _ _ _ 12 (by decide) (fun x hx => r2.out x (List.mem_of_mem_take hx)) (by simp; omega)
            have hm : setN (r.take j) 0 0 < 4096 := hm
            obtain ⟨q, hq, hq2⟩ : ∃ q : Nat, r[j] = (q : Int) ∧ q < 2 := by
              rcases r2.out r[j] (List.getElem_mem hltj) with e | e
              · exact ⟨0, e, by omega⟩
              · exact ⟨1, e, by omega⟩
            rw [hq] at hcelli
            have hF : Hid (((setN (r.take (j + 1)) 0 0 : Nat) : Int) = bits BinOp.or IntKind.i64 (setN (r.take j) 0 0 : Int) (wrap64 ((q : Int) * 2 ^ j))) := Lib.hid (by
              rw [or_shl3 _ q j hm hq2 (by omega), List.take_succ_eq_append_getElem hltj, setN_snoc, hq]; simp [Nat.min_eq_left (Nat.le_of_lt hltj)])
            replace hq := Lib.hid hq
            go_wp2
            go_round
            case rel => exact ⟨j + 1, by omega, by go_num, by rw [hF.out]⟩
            case measure => simp [intOf]; omega
          · obtain rfl : j = r.length := by omega
            rw [List.take_length, ← hcode]
            have hc4 : setN r 0 0 < 2 ^ 12 := setN_lt _ _ _ 12 (by decide) r2.out (by omega)
            have hcl : codeR t k < 4096 := by rw [hcode]; exact hc4
            have wf : (Lit.int .i64 (codeR t k : Int)).wf = true := WalkArith.wf_i64 (by omega)
            obtain ⟨D, hown, hsd⟩ := hD.out
            have hkey := keyOf_int_mk (P := Try.prog) Try.underlying3 wf
            go_wp2_with (at_mapUpdate; refine wpList_mapUpdate_own _ rfl _ _ _ 76 rfl 3 4 law Try.underlying76 _ w.heap.size k _ rfl hown (by unfold maxLen; omega) _ _ _ rfl rfl hkey _ [] (plainElem_bool Try.underlying4 true) ?_; intro w1 hown1 hgrow1)
            have hs2 := hstep.out k D hltk hsd (hown.tidy law) (hown.tidy law).isMap trivial (.lit (.bool true))
            replace hs2 := Lib.hid hs2
            go_roundw
            case rel => exact ⟨k + 1, by omega, by go_num, Lib.hid ⟨_, hown1, hs2.out⟩, hB.grown hgrow1 hB.size (fun j hj => by cases hj; exact Nat.le_refl _)⟩
            case measure => simp [intOf]; omega
      · obtain rfl : k = t.length := by omega
        obtain ⟨D, hown, hsd⟩ := hD.out
        have hsz := hsd.1
        replace hsd := Lib.hid hsd
        go_wp2_with (at_len; refine wpList_len_own _ rfl _ 76 rfl 3 4 Try.underlying76 _ w.heap.size t.length D rfl hown ?_)
        go_ret2
        exact ⟨by rw [hF.out, ← hsz]; rfl, hB⟩
end Go.Proofs.Ytdpfmhoachcnjaa
