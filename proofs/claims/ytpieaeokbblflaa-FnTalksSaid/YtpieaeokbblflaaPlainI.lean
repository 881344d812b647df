/- Plain rectangles: the program's side; conditions: none. -/
import Derived.Test.YtpieaeokbblflaaPlain
import Derived.Test.YtpieaeokbblflaaI64
namespace Go.Proofs.Ytpieaeokbblflaa
open Go.RowKit

theorem c_maskOf (v : Value) (l : List Int) (w : World) (h : Ints w v l) (hl : ∀ e ∈ l, 0 ≤ e ∧ e < 12) :
    Calls Try.prog 123 #[v] w fun e w' => e = .returned (.int .i64 ((maskN l 0 : Nat) : Int)) ∧ w = w' := by
  obtain ⟨ad, cap, rfl, hlen, -⟩ := h.out
  replace hl := Lib.hid hl
  go_enter Try.func123, Try.ntmps123
  go_wp2
  go_loop [3, 8] (fun m i => ∃ j : Nat, j ≤ l.length ∧ i = .int .i64 j ∧ m = .int .i64 ((maskN (l.take j) 0 : Nat) : Int)) (fun _ i => l.length - (intOf i).toNat)
  case atStart => exact ⟨0, Nat.zero_le _, rfl, rfl⟩
  case round =>
    obtain ⟨j, hj, rfl, rfl⟩ := hrel
    by_cases hltj : j < l.length
    · obtain ⟨bi, oi, rfl, hbi, hcelli⟩ := h.at j hltj
      obtain ⟨e0, e1⟩ := hl.out l[j] (List.getElem_mem hltj)
      obtain ⟨q, hq⟩ := Int.eq_ofNat_of_zero_le e0
      have hq12 : q < 12 := by omega
      rw [hq] at hcelli
      have hm : maskN (l.take j) 0 < 2 ^ 12 := maskN_lt _ _ 12 (by decide) fun e he => hl.out e (List.mem_of_mem_take he)
      have hm : maskN (l.take j) 0 < 4096 := hm
      clear e0 e1
      replace hq := Lib.hid hq
      have hF : Hid (((maskN (l.take (j + 1)) 0 : Nat) : Int) = bits BinOp.or IntKind.i64 (maskN (l.take j) 0 : Int) (wrap64 ((2 : Int) ^ q))) := Lib.hid (by
        rw [or_shlI _ q hm hq12, List.take_succ_eq_append_getElem hltj, maskN_snoc, hq.out]; rfl)
      go_wp2
      go_round
      case rel => exact ⟨j + 1, by omega, by go_num, by rw [hF.out]⟩
      case measure => simp [intOf]; omega
    · obtain rfl : j = l.length := by omega
      go_wp2
      go_ret
      exact ⟨by simp, rfl⟩

theorem c_newTalking (a : Option Addr) (n c : Nat) (w : World) :
    Calls Try.prog 69 #[.slice a n c] w fun e w' => ∃ g mv, e = .returned (.pointer (some ⟨g, 0, none⟩)) ∧ w'.heap[g]? = some (.cells #[.slice a n c, mv] 125 (0, 0)) ∧ Below w.heap.size w w' := by
  have hmm := @run_makeMap Try.prog
  go_enter Try.func69, Try.ntmps69
  go_wp2
  go_ret
  exact ⟨_, _, rfl, heap_alloc_at (by first | rfl | simp), ((Below.refl _ _).alloc (Nat.le_refl _) _).alloc (by simp) _⟩

def selB (R C i j : Nat) : Bool := (bitAt i R == 1) && (bitAt j C == 1)
def rowH (t : List (List Int)) (R C : Nat) (v : Int) (i l : Nat) : Bool := (List.range l).any fun j => selB R C i j && (ent t i j == v)
def hasP (t : List (List Int)) (R C : Nat) (v : Int) (k l : Nat) : Bool := ((List.range k).any fun i => rowH t R C v i (wid t)) || rowH t R C v k l
theorem range_any_succ (p : Nat → Bool) (k : Nat) : (List.range (k + 1)).any p = ((List.range k).any p || p k) := by
  rw [List.range_succ, List.any_append]; simp
theorem hasP_succ (t : List (List Int)) (R C : Nat) (v : Int) (k l : Nat) : hasP t R C v k (l + 1) = (hasP t R C v k l || (selB R C k l && (ent t k l == v))) := by
  unfold hasP rowH
  rw [range_any_succ, Bool.or_assoc]
theorem hasP_next (t : List (List Int)) (R C : Nat) (v : Int) (k : Nat) : hasP t R C v (k + 1) 0 = hasP t R C v k (wid t) := by
  unfold hasP
  rw [range_any_succ]
  simp [rowH]
/-- what the program tells of a rectangle -/
def plB (t : List (List Int)) (R C : Nat) : Bool := if hasP t R C 1 t.length 0 then !hasP t R C 0 t.length 0 else true
def plN (t : List (List Int)) (R C : Nat) : Int := if hasP t R C 1 t.length 0 then 1 else 0

set_option maxRecDepth 100000 in
set_option maxHeartbeats 4000000 in
theorem c_plain (g : Nat) (v mv : Value) (t : List (List Int)) (R C : Nat) (w : World) (hb : w.heap[g]? = some (.cells #[v, mv] 125 (0, 0))) (h : Rows2 w v t) (ht : taskB t = true) (hR : R < 4096) (hC : C < 4096) :
    Calls Try.prog 77 #[.pointer (some ⟨g, 0, none⟩), .agg #[.int .i64 R, .int .i64 C]] w fun e w' => e = .returned (.tuple #[.bool (plB t R C), .int .i64 (plN t R C)]) ∧ Below w.heap.size w w' := by
  obtain ⟨adt, capt, rfl, hlt⟩ := h.out
  obtain ⟨ht1, ht2, hlen, h01⟩ := taskB_yes ht
  replace hlen := Lib.hid hlen
  replace h01 := Lib.hid h01
  replace ht := Lib.hid ht
  have hgb := (Array.getElem?_eq_some_iff.1 hb).1
  obtain ⟨⟨z0, z1⟩, -⟩ := blk2 hb
  have hA := ((Below.refl w.heap.size w).alloc (Nat.le_refl _) (.cells #[.int .i64 (R : Int), .int .i64 (C : Int)] 81)).alloc (by simp) (.cells #[.bool false, .bool false] 128)
  have pR0 : ((w.alloc (.cells #[.int .i64 (R : Int), .int .i64 (C : Int)] 81)).alloc (.cells #[.bool false, .bool false] 128)).heap[w.heap.size]? = some (.cells #[.int .i64 (R : Int), .int .i64 (C : Int)] 81 (0, 0)) := by rw [heap_alloc_old _ _ (by simp)]; exact heap_alloc_at rfl
  have pH0 : ((w.alloc (.cells #[.int .i64 (R : Int), .int .i64 (C : Int)] 81)).alloc (.cells #[.bool false, .bool false] 128)).heap[w.heap.size + 1]? = some (.cells #[.bool (hasP t R C 0 0 0), .bool (hasP t R C 1 0 0)] 128 (0, 0)) := heap_alloc_at (by simp)
  go_enter Try.func77, Try.ntmps77
  go_wp2
  clear z0 z1
  go_loopw [17] (fun i wr => ∃ k : Nat, k ≤ t.length ∧ i = .int .i64 k ∧ wr.heap[w.heap.size]? = some (.cells #[.int .i64 (R : Int), .int .i64 (C : Int)] 81 (0, 0)) ∧ wr.heap[w.heap.size + 1]? = some (.cells #[.bool (hasP t R C 0 k 0), .bool (hasP t R C 1 k 0)] 128 (0, 0)) ∧ Below w.heap.size w wr) (fun i _ => t.length - (intOf i).toNat)
  case atStart => exact ⟨0, Nat.zero_le _, rfl, pR0, pH0, hA⟩
  case round =>
    clear pR0 pH0 hA
    obtain ⟨k, hk, rfl, pR, pH, hB⟩ := hrel
    by_cases hltk : k < t.length
    · obtain ⟨wo, rfl⟩ : ∃ wo : World, wo = wr := ⟨_, rfl⟩
      obtain ⟨blt, offt, a0, c0, rfl, hbt0, hcell0, hit0⟩ := h.at k hltk
      have hkl := hlen.out k hltk
      rw [hkl] at hcell0 hit0
      replace hkl := Lib.hid hkl
      have hbt : blt < wo.heap.size := Nat.lt_of_lt_of_le hbt0 hB.size
      have hcellt := ((bcell hB).1 _ _ hbt0).trans hcell0
      have hd : decide ((k : Int) < (t.length : Int)) = true := by simp; omega
      go_wp2
      clear hcellt
      go_loopw [24] (fun i wr => ∃ l : Nat, l ≤ wid t ∧ i = .int .i64 l ∧ wr.heap[w.heap.size]? = some (.cells #[.int .i64 (R : Int), .int .i64 (C : Int)] 81 (0, 0)) ∧ wr.heap[w.heap.size + 1]? = some (.cells #[.bool (hasP t R C 0 k l), .bool (hasP t R C 1 k l)] 128 (0, 0)) ∧ Below w.heap.size w wr) (fun i _ => wid t - (intOf i).toNat)
      case atStart => exact ⟨0, Nat.zero_le _, rfl, pR, pH, hB⟩
      case round =>
        clear pR pH hB
        obtain ⟨l, hl, rfl, pR, pH, hB⟩ := hrel
        have hlR := (Array.getElem?_eq_some_iff.1 pR).1
        have hlH := (Array.getElem?_eq_some_iff.1 pH).1
        obtain ⟨⟨r0, r1⟩, -⟩ := blk2 pR
        obtain ⟨⟨s0, s1⟩, f0, f1⟩ := blk2 pH
        by_cases hltl : l < wid t
        · have hlk : l < t[k].length := by rw [hkl.out]; exact hltl
          obtain ⟨bx, ox, rfl, hbx, hcellx⟩ := (hit0.below hB).at l hlk
          have hE1 : Hid (bits .and .i64 ((R : Int) / 2 ^ k) 1 = bitAt k R) := Lib.hid (and1_div R k (by omega))
          have hE2 : Hid (bits .and .i64 ((C : Int) / 2 ^ l) 1 = bitAt l C) := Lib.hid (and1_div C l (by omega))
          have hen : Hid (t[k][l] = ent t k l) := Lib.hid (ent_eq t k l hltk hlk)
          have hd2 : decide ((l : Int) < (wid t : Int)) = true := by simp; omega
          have hs0 := Lib.hid (hasP_succ t R C 0 k l)
          have hs1 := Lib.hid (hasP_succ t R C 1 k l)
          cases hx : (bitAt k R == 1)
          · have hx2 : (bits .and .i64 ((R : Int) / 2 ^ k) 1 == 1) = false := by rw [hE1.out]; exact hx
            have hsel : Hid (selB R C k l = false) := Lib.hid (by unfold selB; rw [hx]; rfl)
            replace hx := Lib.hid hx
            go_wp2
            go_roundw
            case rel => exact ⟨l + 1, by omega, by go_num, pR, by rw [hs0.out, hs1.out, hsel.out]; simpa using pH, hB⟩
            case measure => simp [intOf]; omega
          · have hx2 : (bits .and .i64 ((R : Int) / 2 ^ k) 1 == 1) = true := by rw [hE1.out]; exact hx
            cases hy : (bitAt l C == 1)
            · have hy2 : (bits .and .i64 ((C : Int) / 2 ^ l) 1 == 1) = false := by rw [hE2.out]; exact hy
              have hsel : Hid (selB R C k l = false) := Lib.hid (by unfold selB; rw [hx, hy]; rfl)
              replace hx := Lib.hid hx
              replace hy := Lib.hid hy
              go_wp2
              go_roundw
              case rel => exact ⟨l + 1, by omega, by go_num, pR, by rw [hs0.out, hs1.out, hsel.out]; simpa using pH, hB⟩
              case measure => simp [intOf]; omega
            · have hy2 : (bits .and .i64 ((C : Int) / 2 ^ l) 1 == 1) = true := by rw [hE2.out]; exact hy
              have hsel : Hid (selB R C k l = true) := Lib.hid (by unfold selB; rw [hx, hy]; rfl)
              replace hx := Lib.hid hx
              replace hy := Lib.hid hy
              rcases h01.out k hltk l hlk with h0 | h0
              · rw [h0] at hcellx
                have pH2 : Hid ((wr.setCell ⟨w.heap.size + 1, 0, none⟩ (.bool true)).heap[w.heap.size + 1]? = some (.cells #[.bool (hasP t R C 0 k (l + 1)), .bool (hasP t R C 1 k (l + 1))] 128 (0, 0))) := Lib.hid (by
                  rw [hs0.out, hs1.out, hsel.out, ← hen.out, h0]
                  have := blk_set (j := 0) (v := .bool true) pH
                  simpa using this)
                have pR2 := Lib.hid (blk_other (j := 0) (v := .bool true) pR (show w.heap.size ≠ w.heap.size + 1 by omega))
                have hB2 := Lib.hid (hB.setCell (p := ⟨w.heap.size + 1, 0, none⟩) (by simp) (.bool true))
                replace h0 := Lib.hid h0
                go_wp2
                go_roundw
                case rel => exact ⟨l + 1, by omega, by go_num, pR2.out, pH2.out, hB2.out⟩
                case measure => simp [intOf]; omega
              · rw [h0] at hcellx
                have pH2 : Hid ((wr.setCell ⟨w.heap.size + 1, 1, none⟩ (.bool true)).heap[w.heap.size + 1]? = some (.cells #[.bool (hasP t R C 0 k (l + 1)), .bool (hasP t R C 1 k (l + 1))] 128 (0, 0))) := Lib.hid (by
                  rw [hs0.out, hs1.out, hsel.out, ← hen.out, h0]
                  have := blk_set (j := 1) (v := .bool true) pH
                  simpa using this)
                have pR2 := Lib.hid (blk_other (j := 1) (v := .bool true) pR (show w.heap.size ≠ w.heap.size + 1 by omega))
                have hB2 := Lib.hid (hB.setCell (p := ⟨w.heap.size + 1, 1, none⟩) (by simp) (.bool true))
                replace h0 := Lib.hid h0
                go_wp2
                go_roundw
                case rel => exact ⟨l + 1, by omega, by go_num, pR2.out, pH2.out, hB2.out⟩
                case measure => simp [intOf]; omega
        · obtain rfl : l = wid t := by omega
          have hn0 := Lib.hid (hasP_next t R C 0 k)
          have hn1 := Lib.hid (hasP_next t R C 1 k)
          go_wp2
          go_roundw
          case rel => exact ⟨k + 1, by omega, by go_num, pR, by rw [hn0.out, hn1.out]; exact pH, hB⟩
          case measure => simp [intOf]; omega
    · obtain rfl : k = t.length := by omega
      obtain ⟨⟨s0, s1⟩, f0, f1⟩ := blk2 pH
      have hlH := (Array.getElem?_eq_some_iff.1 pH).1
      cases hx : hasP t R C 1 t.length 0
      · have hF : Hid (plB t R C = true ∧ plN t R C = 0) := Lib.hid (by unfold plB plN; rw [hx]; exact ⟨rfl, rfl⟩)
        rw [hx] at s1
        go_wp2
        go_ret2
        exact ⟨by rw [hF.out.1, hF.out.2]; rfl, hB⟩
      · have hF : Hid (plB t R C = !hasP t R C 0 t.length 0 ∧ plN t R C = 1) := Lib.hid (by unfold plB plN; rw [hx]; exact ⟨rfl, rfl⟩)
        rw [hx] at s1
        go_wp2
        go_ret2
        exact ⟨by rw [hF.out.1, hF.out.2]; rfl, hB⟩

/-- the sets of bits tell what the lists tell -/
theorem mask_bit (l : List Int) (i : Nat) (h : ∀ e ∈ l, 0 ≤ e) : (bitAt i (maskN l 0) == 1) = l.contains (i : Int) := by
  have := maskN_test l 0 i h
  rw [Nat.zero_testBit, Bool.false_or] at this
  rw [← this, Nat.testBit_eq_decide_div_mod_eq]
  unfold bitAt
  have h2 : maskN l 0 / 2 ^ i % 2 = 0 ∨ maskN l 0 / 2 ^ i % 2 = 1 := by omega
  rcases h2 with h2 | h2 <;> rw [h2] <;> rfl
theorem hasP_has {t : List (List Int)} {rows cols : List Int} (hr : ∀ a ∈ rows, 0 ≤ a ∧ a < t.length) (hc : ∀ b ∈ cols, 0 ≤ b ∧ b < wid t) (v : Int) : hasP t (maskN rows 0) (maskN cols 0) v t.length 0 = hasV t rows cols v := by
  have e : hasP t (maskN rows 0) (maskN cols 0) v t.length 0 = (List.range t.length).any fun i => rowH t (maskN rows 0) (maskN cols 0) v i (wid t) := by
    unfold hasP; simp [rowH]
  rw [e, Bool.eq_iff_iff]
  unfold hasV rowH selB
  simp only [List.any_eq_true, List.mem_range, Bool.and_eq_true, mask_bit _ _ (fun e he => (hr e he).1), mask_bit _ _ (fun e he => (hc e he).1), List.contains_iff_mem, beq_iff_eq]
  constructor
  · rintro ⟨i, hi, j, hj, ⟨h1, h2⟩, h3⟩
    exact ⟨_, h1, _, h2, by simpa [entI] using h3⟩
  · rintro ⟨a, ha, b, hb, h3⟩
    have a1 := hr a ha
    have b1 := hc b hb
    refine ⟨a.toNat, by omega, b.toNat, by omega, ⟨?_, ?_⟩, h3⟩
    · rw [Int.toNat_of_nonneg a1.1]; exact ha
    · rw [Int.toNat_of_nonneg b1.1]; exact hb
theorem plB_eq {t : List (List Int)} {rows cols : List Int} (ht : taskB t = true) (hr : ∀ a ∈ rows, 0 ≤ a ∧ a < t.length) (hc : ∀ b ∈ cols, 0 ≤ b ∧ b < wid t) (hr0 : 0 < rows.length) (hc0 : 0 < cols.length) :
    plB t (maskN rows 0) (maskN cols 0) = plainS t rows cols := by
  unfold plB
  rw [hasP_has hr hc, hasP_has hr hc, (plain_has ht hr hc hr0 hc0).1]
  cases hasV t rows cols 1 <;> cases hasV t rows cols 0 <;> rfl

theorem setB_yes {n : Int} {l : List Int} (h : setB n l = true) : 0 < l.length ∧ risB 0 (n - 1) l = true := by
  unfold setB at h
  simpa using h
set_option maxHeartbeats 2000000 in
theorem c_impl_IsPlain (v u x : Value) (t : List (List Int)) (rows cols : List Int) (w : World) (h : Rows2 w v t) (g : Ints w u rows) (k : Ints w x cols) :
    Calls Try.prog 63 #[v, u, x] w fun e w' => e = .returned (.tuple #[.bool (plainV t rows cols), .bool (plainOk t rows cols)]) ∧ Below w.heap.size w w' := by
  obtain ⟨adt, capt, rfl, hlt⟩ := h.out
  obtain ⟨adr, capr, rfl, hlr, -⟩ := g.out
  obtain ⟨adc, capc, rfl, hlc, -⟩ := k.out
  have hA := Below.refl w.heap.size w
  cases ht : taskB t
  · have hF : plainOk t rows cols = false ∧ plainV t rows cols = false := by simp [plainOk, plainV, ht]
    rw [hF.1, hF.2]
    clear hF
    replace ht := Lib.hid ht
    go_enter Try.func63, Try.ntmps63
    go_wp2_with fail
    refine (c_impl_IsTask _ t _ h).mono ?_
    rintro e _ ⟨rfl, rfl⟩
    rw [ht.out]
    go_wp2
    go_ret2
    exact ⟨rfl, hA⟩
  obtain ⟨ht1, ht2, hlen, -⟩ := taskB_yes ht
  replace hlen := Lib.hid hlen
  have hT := Lib.hid ht
  clear ht
  cases hr0 : ((rows.length : Int) == 0)
  case true =>
    have hF : plainOk t rows cols = false ∧ plainV t rows cols = false := by simp [plainOk, plainV, setB, show ¬ 0 < rows.length by have := beq_iff_eq.1 hr0; omega]
    rw [hF.1, hF.2]
    clear hF
    go_enter Try.func63, Try.ntmps63
    go_wp2_with fail
    refine (c_impl_IsTask _ t _ h).mono ?_
    rintro e _ ⟨rfl, rfl⟩
    rw [hT.out]
    go_wp2
    go_ret2
    exact ⟨rfl, hA⟩
  cases hc0 : ((cols.length : Int) == 0)
  case true =>
    have hF : plainOk t rows cols = false ∧ plainV t rows cols = false := by simp [plainOk, plainV, setB, show ¬ 0 < cols.length by have := beq_iff_eq.1 hc0; omega]
    rw [hF.1, hF.2]
    clear hF
    go_enter Try.func63, Try.ntmps63
    go_wp2_with fail
    refine (c_impl_IsTask _ t _ h).mono ?_
    rintro e _ ⟨rfl, rfl⟩
    rw [hT.out]
    go_wp2
    go_ret2
    exact ⟨rfl, hA⟩
  have hrp : 0 < rows.length := by have := beq_eq_false_iff_ne.1 hr0; omega
  have hcp : 0 < cols.length := by have := beq_eq_false_iff_ne.1 hc0; omega
  cases hr : risB 0 ((t.length : Int) - 1) rows
  · have hF : plainOk t rows cols = false ∧ plainV t rows cols = false := by simp [plainOk, plainV, setB, hr]
    rw [hF.1, hF.2]
    clear hF
    replace hr := Lib.hid hr
    go_enter Try.func63, Try.ntmps63
    go_wp2_with fail
    refine (c_impl_IsTask _ t _ h).mono ?_
    rintro e _ ⟨rfl, rfl⟩
    rw [hT.out]
    go_wp2_with fail
    refine (c_isSet _ rows (t.length : Int) _ g (by omega)).mono ?_
    rintro e _ ⟨rfl, rfl⟩
    rw [hr.out]
    go_wp2
    go_ret2
    exact ⟨rfl, hA⟩
  obtain ⟨blt, offt, a0, c0, rfl, hbt, hcellt, hit⟩ := h.at0 (by omega)
  cases hc : risB 0 ((wid t : Int) - 1) cols
  · have hF : plainOk t rows cols = false ∧ plainV t rows cols = false := by simp [plainOk, plainV, setB, hc]
    rw [hF.1, hF.2]
    clear hF
    replace hr := Lib.hid hr
    replace hc := Lib.hid hc
    go_enter Try.func63, Try.ntmps63
    go_wp2_with fail
    refine (c_impl_IsTask _ t _ h).mono ?_
    rintro e _ ⟨rfl, rfl⟩
    rw [hT.out]
    go_wp2_with fail
    refine (c_isSet _ rows (t.length : Int) _ g (by omega)).mono ?_
    rintro e _ ⟨rfl, rfl⟩
    rw [hr.out]
    go_wp2_with fail
    refine (c_isSet _ cols (wid t : Int) _ k (by omega)).mono ?_
    rintro e _ ⟨rfl, rfl⟩
    rw [hc.out]
    go_wp2
    go_ret2
    exact ⟨rfl, hA⟩
  have hrm : ∀ a ∈ rows, 0 ≤ a ∧ a < t.length := fun a ha => by have := risB_mem hr a ha; omega
  have hcm : ∀ b ∈ cols, 0 ≤ b ∧ b < wid t := fun b hb => by have := risB_mem hc b hb; omega
  have hpl := Lib.hid (plB_eq hT.out hrm hcm hrp hcp)
  have hF : plainOk t rows cols = true ∧ plainV t rows cols = plainS t rows cols := by simp [plainOk, plainV, setB, hT.out, hr, hc, hrp, hcp]
  rw [hF.1, hF.2]
  clear hF
  have hm1 : maskN rows 0 < 2 ^ 12 := maskN_lt _ _ 12 (by decide) fun e he => by have := hrm e he; omega
  have hm2 : maskN cols 0 < 2 ^ 12 := maskN_lt _ _ 12 (by decide) fun e he => by have := hcm e he; omega
  have hr12 : Hid (∀ e ∈ rows, 0 ≤ e ∧ e < 12) := Lib.hid fun e he => by have := hrm e he; omega
  have hc12 : Hid (∀ e ∈ cols, 0 ≤ e ∧ e < 12) := Lib.hid fun e he => by have := hcm e he; omega
  replace hm1 := Lib.hid hm1
  replace hm2 := Lib.hid hm2
  replace hr := Lib.hid hr
  replace hc := Lib.hid hc
  replace hrm := Lib.hid hrm
  replace hcm := Lib.hid hcm
  go_enter Try.func63, Try.ntmps63
  go_wp2_with fail
  refine (c_impl_IsTask _ t _ h).mono ?_
  rintro e _ ⟨rfl, rfl⟩
  rw [hT.out]
  go_wp2_with fail
  refine (c_isSet _ rows (t.length : Int) _ g (by omega)).mono ?_
  rintro e _ ⟨rfl, rfl⟩
  rw [hr.out]
  go_wp2_with fail
  refine (c_isSet _ cols (wid t : Int) _ k (by omega)).mono ?_
  rintro e _ ⟨rfl, rfl⟩
  rw [hc.out]
  go_wp2_with fail
  refine (c_newTalking _ _ _ _).mono ?_
  rintro e w1 ⟨gg, mv, rfl, hgg, hb1⟩
  go_wp2_with fail
  refine (c_maskOf _ rows _ (g.below hb1) hr12.out).mono ?_
  rintro e _ ⟨rfl, rfl⟩
  go_wp2_with fail
  refine (c_maskOf _ cols _ (k.below hb1) hc12.out).mono ?_
  rintro e _ ⟨rfl, rfl⟩
  go_wp2_with fail
  refine (c_plain gg _ mv t _ _ _ hgg (h.below hb1) hT.out (Nat.lt_of_lt_of_le hm1.out (by decide)) (Nat.lt_of_lt_of_le hm2.out (by decide))).mono ?_
  rintro e w2 ⟨rfl, hb2⟩
  rw [hpl.out]
  replace hb1 := bstep hb1 hb2
  go_wp2
  go_ret2
  exact ⟨rfl, hb1⟩
end Go.Proofs.Ytpieaeokbblflaa
