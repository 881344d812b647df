/- The program's plans: the parts of a rectangle, and what a player can say; conditions: none. -/
import Derived.Test.YtpieaeokbblflaaMemo
import Derived.BigRegion
import Derived.BigQuiet
namespace Go.Proofs.Ytpieaeokbblflaa
open Go.RowKit

set_option maxRecDepth 100000 in
theorem ixm0 (a b : Int) (w : World) : Sem.run Try.prog (Instr.index 76 (.agg #[.int .i64 a, .int .i64 b]) (.int .i64 0)) w = .ok (.int .i64 a) w := by rfl
set_option maxRecDepth 100000 in
theorem ixm1 (a b : Int) (w : World) : Sem.run Try.prog (Instr.index 76 (.agg #[.int .i64 a, .int .i64 b]) (.int .i64 1)) w = .ok (.int .i64 b) w := by rfl
theorem andNot_sub : ∀ R : Nat, R < 16 → ∀ p : Nat, p < 16 → p &&& R = p → bits .andNot .i64 (R : Int) (p : Int) = ((R - p : Nat) : Int) := by decide +kernel
theorem andNot_test : ∀ s : Nat, s < 16 → ∀ R : Nat, R < 16 → (bits .andNot .i64 (s : Int) (R : Int) == 0) = (s &&& R == s) := by decide +kernel


set_option maxRecDepth 100000 in
set_option maxHeartbeats 2000000 in
theorem c_parts0 (R C p : Nat) (_ : R < 16) (_ : C < 16) (hs : R < 16) (hp : p &&& R = p) (w : World) :
    Calls Try.prog 132 #[.agg #[.int .i64 (R : Int), .int .i64 (C : Int)], .int .i64 0, .int .i64 (p : Int)] w fun e w' => e = .returned (.agg #[.int .i64 ((R - p : Nat) : Int), .int .i64 (C : Int), .int .i64 (p : Int), .int .i64 (C : Int)]) ∧ Below w.heap.size w w' := by
  have hpl : p < 16 := by have : p &&& R ≤ R := Nat.and_le_right; omega
  have hsub := andNot_sub R hs p hpl hp
  replace hp := Lib.hid hp
  have hB := ((((Below.refl w.heap.size w).alloc (Nat.le_refl _) (.cells #[.int .i64 (R : Int), .int .i64 (C : Int)] 81)))).alloc (by simp) (.cells (.agg #[.int .i64 ((R - p : Nat) : Int), .int .i64 (C : Int), .int .i64 (p : Int), .int .i64 (C : Int)] : Value).cells 130)
  go_enter Try.func132, Try.ntmps132
  go_wp2_with fail
  go_region
  all_goals go_wp2
  all_goals refine bodyPost_ret (v := .agg #[.int .i64 ((R - p : Nat) : Int), .int .i64 (C : Int), .int .i64 (p : Int), .int .i64 (C : Int)]) (by simp [results, Try.results132, go_sem]) rfl ⟨rfl, ?_⟩
  all_goals exact ((hB.alloc (by simp; omega) _).alloc (by simp; omega) _).drew
set_option maxRecDepth 100000 in
set_option maxHeartbeats 2000000 in
theorem c_parts1 (R C p : Nat) (_ : R < 16) (_ : C < 16) (hs : C < 16) (hp : p &&& C = p) (w : World) :
    Calls Try.prog 132 #[.agg #[.int .i64 (R : Int), .int .i64 (C : Int)], .int .i64 1, .int .i64 (p : Int)] w fun e w' => e = .returned (.agg #[.int .i64 (R : Int), .int .i64 ((C - p : Nat) : Int), .int .i64 (R : Int), .int .i64 (p : Int)]) ∧ Below w.heap.size w w' := by
  have hpl : p < 16 := by have : p &&& C ≤ C := Nat.and_le_right; omega
  have hsub := andNot_sub C hs p hpl hp
  replace hp := Lib.hid hp
  have hB := ((((Below.refl w.heap.size w).alloc (Nat.le_refl _) (.cells #[.int .i64 (R : Int), .int .i64 (C : Int)] 81)))).alloc (by simp) (.cells (.agg #[.int .i64 (R : Int), .int .i64 ((C - p : Nat) : Int), .int .i64 (R : Int), .int .i64 (p : Int)] : Value).cells 130)
  go_enter Try.func132, Try.ntmps132
  go_wp2_with fail
  go_region
  all_goals go_wp2
  all_goals refine bodyPost_ret (v := .agg #[.int .i64 (R : Int), .int .i64 ((C - p : Nat) : Int), .int .i64 (R : Int), .int .i64 (p : Int)]) (by simp [results, Try.results132, go_sem]) rfl ⟨rfl, ?_⟩
  all_goals exact ((hB.alloc (by simp; omega) _).alloc (by simp; omega) _).drew

set_option maxRecDepth 100000 in
set_option maxHeartbeats 2000000 in
theorem c_whole (gb mb B : Nat) (v : Value) (t : List (List Int)) (w : World) (h : TalkM t v B gb mb w) (ht : taskB t = true) :
    Calls Try.prog 71 #[.pointer (some ⟨gb, 0, none⟩)] w fun e w' => e = .returned (.agg #[.int .i64 ((2 ^ t.length - 1 : Nat) : Int), .int .i64 ((2 ^ wid t - 1 : Nat) : Int)]) ∧ Below w.heap.size w w' := by
  obtain ⟨adt, capt, rfl, hlt⟩ := h.rows.out
  obtain ⟨hn, hm, hrow, h01⟩ := taskB_yes ht
  obtain ⟨bl0, off0, a0, c0, rfl, hb0, hcell0, hi0⟩ := h.rows.at0 (by omega)
  obtain ⟨⟨z0, z1⟩, -⟩ := blk2 h.1
  have hgb := h.lt.1
  obtain ⟨e1, u1, u2⟩ := shl_oneN t.length hn.2
  obtain ⟨e2, m1, m2⟩ := shl_oneN (wid t) hm.2
  obtain ⟨U, hU⟩ : ∃ z, z + 1 = 2 ^ t.length := ⟨2 ^ t.length - 1, by omega⟩
  obtain ⟨M, hM⟩ : ∃ z, z + 1 = 2 ^ wid t := ⟨2 ^ wid t - 1, by omega⟩
  rw [← hU] at e1 u1 u2 ⊢
  rw [← hM] at e2 m1 m2 ⊢
  have hwU : IntKind.i64.wrap (U : Int) = (U : Int) := wraps_i64 _ (by omega) (by omega)
  have hwM : IntKind.i64.wrap (M : Int) = (M : Int) := wraps_i64 _ (by omega) (by omega)
  replace hU := Lib.hid hU
  replace hM := Lib.hid hM
  replace h := Lib.hid h
  clear hi0 h01 hrow
  have hB := ((Below.refl w.heap.size w).alloc (Nat.le_refl _) (.cells #[.int .i64 (U : Int), .int .i64 (M : Int)] 81))
  go_enter Try.func71, Try.ntmps71
  go_wp2_with fail
  go_region
  all_goals go_wp2
  all_goals refine bodyPost_ret (v := .agg #[.int .i64 (U : Int), .int .i64 (M : Int)]) (by simp [results, Try.results71, go_sem]) rfl ⟨rfl, ?_⟩
  all_goals exact hB.drew

theorem c_newTalkingM (v : Value) (t : List (List Int)) (w : World) (h : Rows2 w v t) :
    Calls Try.prog 69 #[v] w fun e w' => ∃ gb mb, e = .returned (.pointer (some ⟨gb, 0, none⟩)) ∧ TalkM t v w.heap.size gb mb w' ∧ Below w.heap.size w w' := by
  obtain ⟨ad, cap, rfl, hl⟩ := h.out
  have hmm := @run_makeMap Try.prog
  have hown0 := World.ownsMap_made (H := Unit) w Try.prog 81 (plainElem Try.prog 3)
  go_enter Try.func69, Try.ntmps69
  go_wp2
  go_ret
  have hb : Below w.heap.size w ((w.alloc (.map #[] 0)).alloc (.cells #[.slice ad t.length cap, .map (some w.heap.size)] 125)) := ((Below.refl _ _).alloc (Nat.le_refl _) _).alloc (by simp) _
  exact ⟨w.heap.size + 1, w.heap.size, rfl, ⟨heap_alloc_at (by simp), by omega, Nat.le_refl _, ⟨w, rfl, h, hb⟩, _, (hown0.alloc _).mono (by omega), memo_zero t⟩, hb⟩

def revTo (n code i : Nat) : Nat := (List.range i).foldl (fun s i => s ||| (code / 2 ^ (n - 1 - i) % 2 * 2 ^ i)) 0
theorem revTo_succ (n code i : Nat) : revTo n code (i + 1) = revTo n code i ||| (code / 2 ^ (n - 1 - i) % 2 * 2 ^ i) := by
  unfold revTo
  rw [List.range_succ, List.foldl_append]
  rfl
theorem revTo_lt : ∀ n : Nat, n < 5 → ∀ code : Nat, code < 2 ^ n → ∀ i : Nat, i < n + 1 → revTo n code i < 16 := by decide +kernel
def splTo (n R c : Nat) : List Nat := ((List.range c).map (revb n)).filter fun s => (s &&& R == s) && (s != 0 && s != R)
theorem splTo_yes {n R c : Nat} (h : ((revb n c &&& R == revb n c) && (revb n c != 0 && revb n c != R)) = true) : splTo n R (c + 1) = splTo n R c ++ [revb n c] := by
  unfold splTo
  rw [List.range_succ, List.map_append, List.filter_append]
  simp [h]
theorem splTo_no {n R c : Nat} (h : ((revb n c &&& R == revb n c) && (revb n c != 0 && revb n c != R)) = false) : splTo n R (c + 1) = splTo n R c := by
  unfold splTo
  rw [List.range_succ, List.map_append, List.filter_append]
  simp [h]
theorem splTo_len (n R c : Nat) : (splTo n R c).length ≤ c := by
  unfold splTo
  exact Nat.le_trans (List.length_filter_le _ _) (by simp)
def natL (l : List Nat) : List Int := l.map fun x : Nat => (x : Int)
theorem natL_len (l : List Nat) : (natL l).length = l.length := by simp [natL]
theorem natL_app (l k : List Nat) : natL (l ++ k) = natL l ++ natL k := by simp [natL]
theorem or_shl4 : ∀ q : Nat, q < 2 → ∀ k : Nat, k < 5 → ∀ m : Nat, m < 16 → bits BinOp.or IntKind.i64 (m : Int) (wrap64 ((q : Int) * 2 ^ k)) = ((m ||| (q * 2 ^ k) : Nat) : Int) := by decide +kernel

set_option maxRecDepth 100000 in
set_option maxHeartbeats 4000000 in
theorem c_splits0 (gb mb B : Nat) (v : Value) (t : List (List Int)) (R C : Nat) (_ : R < 16) (_ : C < 16) (hS : R < 16) (w : World) (h : TalkM t v B gb mb w) (ht : taskB t = true) :
    Calls Try.prog 128 #[.pointer (some ⟨gb, 0, none⟩), .agg #[.int .i64 (R : Int), .int .i64 (C : Int)], .int .i64 0] w fun e w' => ∃ v', e = .returned v' ∧ OwnI w' w.heap.size v' (natL (spl (t.length) R)) ∧ Below w.heap.size w w' := by
  obtain ⟨adt, capt, rfl, hlt⟩ := h.rows.out
  obtain ⟨hn, hm, hrow, h01⟩ := taskB_yes ht
  obtain ⟨bl0, off0, a0, c0, rfl, hb0, hcell0, hi0⟩ := h.rows.at0 (by omega)
  obtain ⟨⟨z0, z1⟩, -⟩ := blk2 h.1
  have hgb := h.lt.1
  obtain ⟨e1, u1, u2⟩ := shl_oneN (t.length) hn.2
  obtain ⟨U, hU⟩ : ∃ z, z = 2 ^ (t.length) := ⟨_, rfl⟩
  rw [← hU] at e1 u1 u2
  have hspl : Hid (splTo (t.length) R U = spl (t.length) R) := Lib.hid (by rw [hU]; rfl)
  replace hU := Lib.hid hU
  replace h := Lib.hid h
  clear hi0 h01 hrow
  have hA := ((Below.refl w.heap.size w).alloc (Nat.le_refl _) (.cells #[.int .i64 (R : Int), .int .i64 (C : Int)] 81))
  have hpos : 0 < t.length := by omega
  have hi0 := ixm0
  have hi1 := ixm1
  go_enter Try.func128, Try.ntmps128
  go_wp2_with fail
  go_region
  obtain ⟨wd, hwd⟩ : ∃ wd, wd = (w.alloc (.cells #[.int .i64 (R : Int), .int .i64 (C : Int)] 81)).drew := ⟨_, rfl⟩
  rw [← hwd]
  have hbx : wd.heap[w.heap.size]? = some (.cells #[.int .i64 (R : Int), .int .i64 (C : Int)] 81 (0, 0)) := by rw [hwd]; exact heap_alloc_at rfl
  have hD : Below w.heap.size w wd := by rw [hwd]; exact hA.drew
  clear hwd hA z0 z1 hi0 hi1 hcell0
  have hszd := hD.size
  go_wp2_with fail
  go_loopw [8, 30] (fun v i wr => ∃ c : Nat, c ≤ U ∧ i = .int .i64 c ∧ OwnI wr wd.heap.size v (natL (splTo (t.length) R c)) ∧ Below wd.heap.size wd wr) (fun _ i _ => U - (intOf i).toNat)
  case atStart => exact ⟨0, Nat.zero_le _, rfl, own_empty _ _ (Nat.le_refl _), (Below.refl _ _).alloc (Nat.le_refl _) _⟩
  case round =>
    obtain ⟨c, hc, rfl, hown, hB⟩ := hrel
    have hsz := hB.size
    by_cases hlc : c < U
    · have hdc : decide ((c : Int) < (U : Int)) = true := by simp; omega
      go_wp2_with fail
      go_loop [10, 34] (fun s i => ∃ k : Nat, k ≤ t.length ∧ i = .int .i64 k ∧ s = .int .i64 ((revTo (t.length) c k : Nat) : Int)) (fun _ i => t.length - (intOf i).toNat)
      case atStart => exact ⟨0, Nat.zero_le _, rfl, rfl⟩
      case round =>
        obtain ⟨k, hk, rfl, rfl⟩ := hrel
        have hrl := revTo_lt (t.length) (by omega) c (by rw [← hU.out]; exact hlc) k (by omega)
        by_cases hlk : k < t.length
        · have hdk : decide ((k : Int) < ((t.length : Nat) : Int)) = true := by simp; omega
          have hF : Hid (bits BinOp.or IntKind.i64 ((revTo (t.length) c k : Nat) : Int) (wrap64 (bits BinOp.and IntKind.i64 ((c : Int) / 2 ^ (t.length - 1 - k)) 1 * 2 ^ k)) = ((revTo (t.length) c (k + 1) : Nat) : Int)) := Lib.hid (by
            rw [and1_div c _ (by omega), revTo_succ]
            exact or_shl4 _ (Nat.mod_lt _ (by omega)) k (by omega) _ hrl)
          go_wp2
          go_round
          case rel => exact ⟨k + 1, by omega, by go_num, by rw [hF.out]⟩
          case measure => simp [intOf]; omega
        · obtain rfl : k = t.length := by omega
          obtain ⟨s, hs⟩ : ∃ s, s = revTo (t.length) c (t.length) := ⟨_, rfl⟩
          have hsb : s = revb (t.length) c := hs
          rw [← hs] at hrl ⊢
          clear hs
          have hbx2 := blk_later hB hbx
          obtain ⟨⟨y0, y1⟩, -⟩ := blk2 hbx2
          have hlb : w.heap.size < wr.heap.size := (Array.getElem?_eq_some_iff.1 hbx2).1
          have hlen := splTo_len (t.length) R c
          have hta := andNot_test s (by omega) R hS
          cases ha : (s &&& R == s)
          · rw [ha] at hta
            have hs : Hid (natL (splTo (t.length) R (c + 1)) = natL (splTo (t.length) R c)) := Lib.hid (by rw [splTo_no (by rw [← hsb, ha]; rfl)])
            replace ha := Lib.hid ha
            clear hsb
            go_wp2
            go_round
            case rel => exact ⟨c + 1, by omega, by go_num, by rw [hs.out]; exact hown, hB⟩
            case measure => simp [intOf]; omega
          · rw [ha] at hta
            cases h0 : (s != 0)
            · have hs : Hid (natL (splTo (t.length) R (c + 1)) = natL (splTo (t.length) R c)) := Lib.hid (by rw [splTo_no (by rw [← hsb, ha, h0]; rfl)])
              have hs0 : s = 0 := by simpa using h0
              have hz : bits BinOp.andNot IntKind.i64 (0 : Int) (R : Int) = 0 := by rw [hs0] at hta; exact eq_of_beq hta
              subst hs0
              replace hta := Lib.hid hta
              replace ha := Lib.hid ha
              replace h0 := Lib.hid h0
              replace hsb := Lib.hid hsb
              go_wp2
              go_round
              case rel => exact ⟨c + 1, by omega, by go_num, by rw [hs.out]; exact hown, hB⟩
              case measure => simp [intOf]; omega
            · cases h1 : (s != R)
              · have hs : Hid (natL (splTo (t.length) R (c + 1)) = natL (splTo (t.length) R c)) := Lib.hid (by rw [splTo_no (by rw [← hsb, ha, h0, h1]; rfl)])
                have hs1 : s = R := by simpa using h1
                have hd0 : ((s : Int) != 0) = true := by simp at h0 ⊢; omega
                have hd1 : ((s : Int) != (R : Int)) = false := by simp; omega
                replace ha := Lib.hid ha
                replace h0 := Lib.hid h0
                replace h1 := Lib.hid h1
                replace hsb := Lib.hid hsb
                replace hs1 := Lib.hid hs1
                go_wp2
                go_round
                case rel => exact ⟨c + 1, by omega, by go_num, by rw [hs.out]; exact hown, hB⟩
                case measure => simp [intOf]; omega
              · have hs : Hid (natL (splTo (t.length) R (c + 1)) = natL (splTo (t.length) R c) ++ [(s : Int)]) := Lib.hid (by rw [splTo_yes (by rw [← hsb, ha, h0, h1]; rfl), natL_app, ← hsb]; rfl)
                have hd0 : ((s : Int) != 0) = true := by simp at h0 ⊢; omega
                have hd1 : ((s : Int) != (R : Int)) = true := by simp at h1 ⊢; omega
                replace ha := Lib.hid ha
                replace h0 := Lib.hid h0
                replace h1 := Lib.hid h1
                replace hsb := Lib.hid hsb
                go_wp2_with (at_builtin; refine wp_append_int _ _ rfl _ _ rfl wd.heap.size _ _ rfl hown rfl (by first | rfl | simp) (by rw [natL_len]; omega) hsz ?_; intro v' w1 hown1 _ hB1 _)
                rw [← hs.out] at hown1
                have hB2 := hB.trans hB1
                go_round
                case rel => exact ⟨c + 1, by omega, by go_num, hown1, hB2⟩
                case measure => simp [intOf]; omega
    · obtain rfl : c = U := by omega
      go_wp2
      go_ret
      exact ⟨_, rfl, by rw [hspl.out] at hown; exact hown.mono hszd, hD.trans (hB.mono hszd)⟩
set_option maxRecDepth 100000 in
set_option maxHeartbeats 4000000 in
theorem c_splits1 (gb mb B : Nat) (v : Value) (t : List (List Int)) (R C : Nat) (_ : R < 16) (_ : C < 16) (hS : C < 16) (w : World) (h : TalkM t v B gb mb w) (ht : taskB t = true) :
    Calls Try.prog 128 #[.pointer (some ⟨gb, 0, none⟩), .agg #[.int .i64 (R : Int), .int .i64 (C : Int)], .int .i64 1] w fun e w' => ∃ v', e = .returned v' ∧ OwnI w' w.heap.size v' (natL (spl (wid t) C)) ∧ Below w.heap.size w w' := by
  obtain ⟨adt, capt, rfl, hlt⟩ := h.rows.out
  obtain ⟨hn, hm, hrow, h01⟩ := taskB_yes ht
  obtain ⟨bl0, off0, a0, c0, rfl, hb0, hcell0, hi0⟩ := h.rows.at0 (by omega)
  obtain ⟨⟨z0, z1⟩, -⟩ := blk2 h.1
  have hgb := h.lt.1
  obtain ⟨e1, u1, u2⟩ := shl_oneN (wid t) hm.2
  obtain ⟨U, hU⟩ : ∃ z, z = 2 ^ (wid t) := ⟨_, rfl⟩
  rw [← hU] at e1 u1 u2
  have hspl : Hid (splTo (wid t) C U = spl (wid t) C) := Lib.hid (by rw [hU]; rfl)
  replace hU := Lib.hid hU
  replace h := Lib.hid h
  clear hi0 h01 hrow
  have hA := ((Below.refl w.heap.size w).alloc (Nat.le_refl _) (.cells #[.int .i64 (R : Int), .int .i64 (C : Int)] 81))
  have hpos : 0 < t.length := by omega
  have hi0 := ixm0
  have hi1 := ixm1
  go_enter Try.func128, Try.ntmps128
  go_wp2_with fail
  go_region
  obtain ⟨wd, hwd⟩ : ∃ wd, wd = (w.alloc (.cells #[.int .i64 (R : Int), .int .i64 (C : Int)] 81)).drew := ⟨_, rfl⟩
  rw [← hwd]
  have hbx : wd.heap[w.heap.size]? = some (.cells #[.int .i64 (R : Int), .int .i64 (C : Int)] 81 (0, 0)) := by rw [hwd]; exact heap_alloc_at rfl
  have hD : Below w.heap.size w wd := by rw [hwd]; exact hA.drew
  clear hwd hA z0 z1 hi0 hi1 hcell0
  have hszd := hD.size
  go_wp2_with fail
  go_loopw [8, 30] (fun v i wr => ∃ c : Nat, c ≤ U ∧ i = .int .i64 c ∧ OwnI wr wd.heap.size v (natL (splTo (wid t) C c)) ∧ Below wd.heap.size wd wr) (fun _ i _ => U - (intOf i).toNat)
  case atStart => exact ⟨0, Nat.zero_le _, rfl, own_empty _ _ (Nat.le_refl _), (Below.refl _ _).alloc (Nat.le_refl _) _⟩
  case round =>
    obtain ⟨c, hc, rfl, hown, hB⟩ := hrel
    have hsz := hB.size
    by_cases hlc : c < U
    · have hdc : decide ((c : Int) < (U : Int)) = true := by simp; omega
      go_wp2_with fail
      go_loop [10, 34] (fun s i => ∃ k : Nat, k ≤ wid t ∧ i = .int .i64 k ∧ s = .int .i64 ((revTo (wid t) c k : Nat) : Int)) (fun _ i => wid t - (intOf i).toNat)
      case atStart => exact ⟨0, Nat.zero_le _, rfl, rfl⟩
      case round =>
        obtain ⟨k, hk, rfl, rfl⟩ := hrel
        have hrl := revTo_lt (wid t) (by omega) c (by rw [← hU.out]; exact hlc) k (by omega)
        by_cases hlk : k < wid t
        · have hdk : decide ((k : Int) < ((wid t : Nat) : Int)) = true := by simp; omega
          have hF : Hid (bits BinOp.or IntKind.i64 ((revTo (wid t) c k : Nat) : Int) (wrap64 (bits BinOp.and IntKind.i64 ((c : Int) / 2 ^ (wid t - 1 - k)) 1 * 2 ^ k)) = ((revTo (wid t) c (k + 1) : Nat) : Int)) := Lib.hid (by
            rw [and1_div c _ (by omega), revTo_succ]
            exact or_shl4 _ (Nat.mod_lt _ (by omega)) k (by omega) _ hrl)
          go_wp2
          go_round
          case rel => exact ⟨k + 1, by omega, by go_num, by rw [hF.out]⟩
          case measure => simp [intOf]; omega
        · obtain rfl : k = wid t := by omega
          obtain ⟨s, hs⟩ : ∃ s, s = revTo (wid t) c (wid t) := ⟨_, rfl⟩
          have hsb : s = revb (wid t) c := hs
          rw [← hs] at hrl ⊢
          clear hs
          have hbx2 := blk_later hB hbx
          obtain ⟨⟨y0, y1⟩, -⟩ := blk2 hbx2
          have hlb : w.heap.size < wr.heap.size := (Array.getElem?_eq_some_iff.1 hbx2).1
          have hlen := splTo_len (wid t) C c
          have hta := andNot_test s (by omega) C hS
          cases ha : (s &&& C == s)
          · rw [ha] at hta
            have hs : Hid (natL (splTo (wid t) C (c + 1)) = natL (splTo (wid t) C c)) := Lib.hid (by rw [splTo_no (by rw [← hsb, ha]; rfl)])
            replace ha := Lib.hid ha
            clear hsb
            go_wp2
            go_round
            case rel => exact ⟨c + 1, by omega, by go_num, by rw [hs.out]; exact hown, hB⟩
            case measure => simp [intOf]; omega
          · rw [ha] at hta
            cases h0 : (s != 0)
            · have hs : Hid (natL (splTo (wid t) C (c + 1)) = natL (splTo (wid t) C c)) := Lib.hid (by rw [splTo_no (by rw [← hsb, ha, h0]; rfl)])
              have hs0 : s = 0 := by simpa using h0
              have hz : bits BinOp.andNot IntKind.i64 (0 : Int) (C : Int) = 0 := by rw [hs0] at hta; exact eq_of_beq hta
              subst hs0
              replace hta := Lib.hid hta
              replace ha := Lib.hid ha
              replace h0 := Lib.hid h0
              replace hsb := Lib.hid hsb
              go_wp2
              go_round
              case rel => exact ⟨c + 1, by omega, by go_num, by rw [hs.out]; exact hown, hB⟩
              case measure => simp [intOf]; omega
            · cases h1 : (s != C)
              · have hs : Hid (natL (splTo (wid t) C (c + 1)) = natL (splTo (wid t) C c)) := Lib.hid (by rw [splTo_no (by rw [← hsb, ha, h0, h1]; rfl)])
                have hs1 : s = C := by simpa using h1
                have hd0 : ((s : Int) != 0) = true := by simp at h0 ⊢; omega
                have hd1 : ((s : Int) != (C : Int)) = false := by simp; omega
                replace ha := Lib.hid ha
                replace h0 := Lib.hid h0
                replace h1 := Lib.hid h1
                replace hsb := Lib.hid hsb
                replace hs1 := Lib.hid hs1
                go_wp2
                go_round
                case rel => exact ⟨c + 1, by omega, by go_num, by rw [hs.out]; exact hown, hB⟩
                case measure => simp [intOf]; omega
              · have hs : Hid (natL (splTo (wid t) C (c + 1)) = natL (splTo (wid t) C c) ++ [(s : Int)]) := Lib.hid (by rw [splTo_yes (by rw [← hsb, ha, h0, h1]; rfl), natL_app, ← hsb]; rfl)
                have hd0 : ((s : Int) != 0) = true := by simp at h0 ⊢; omega
                have hd1 : ((s : Int) != (C : Int)) = true := by simp at h1 ⊢; omega
                replace ha := Lib.hid ha
                replace h0 := Lib.hid h0
                replace h1 := Lib.hid h1
                replace hsb := Lib.hid hsb
                go_wp2_with (at_builtin; refine wp_append_int _ _ rfl _ _ rfl wd.heap.size _ _ rfl hown rfl (by first | rfl | simp) (by rw [natL_len]; omega) hsz ?_; intro v' w1 hown1 _ hB1 _)
                rw [← hs.out] at hown1
                have hB2 := hB.trans hB1
                go_round
                case rel => exact ⟨c + 1, by omega, by go_num, hown1, hB2⟩
                case measure => simp [intOf]; omega
    · obtain rfl : c = U := by omega
      go_wp2
      go_ret
      exact ⟨_, rfl, by rw [hspl.out] at hown; exact hown.mono hszd, hD.trans (hB.mono hszd)⟩
end Go.Proofs.Ytpieaeokbblflaa
