/- BoxCode on both sides; conditions: none. -/
import Derived.Test.YtmdpblckjeochaaBoxAt
import Derived.Test.YtmdpblckjeochaaBits
import Derived.Test.YtmdpblckjeochaaRk
import Derived.Test.YtmdpblckjeochaaAppG
namespace Go.Proofs.Ytmdpblckjeochaa
open Go.RowKit

theorem row_cells {w : World} {v : Value} {r : BoxD} {q : Nat} (h : Ints w v (rowB r q)) (hl : (rowB r q).length = 4) :
    ∃ bl off cap, v = .slice (some ⟨bl, off, none⟩) 4 cap ∧ bl < w.heap.size ∧ w.cell? ⟨bl, off, none⟩ = some (.int .i64 (cellB r q 0)) ∧ w.cell? ⟨bl, off + 1, none⟩ = some (.int .i64 (cellB r q 1)) ∧
      w.cell? ⟨bl, off + 2, none⟩ = some (.int .i64 (cellB r q 2)) ∧ w.cell? ⟨bl, off + 3, none⟩ = some (.int .i64 (cellB r q 3)) := by
  obtain ⟨ad, cap, rfl, -, -⟩ := h.out
  obtain ⟨bl, off, rfl, hb, c0⟩ := h.at 0 (by omega)
  obtain ⟨_, _, e1, -, c1⟩ := h.at 1 (by omega)
  cases e1
  obtain ⟨_, _, e2, -, c2⟩ := h.at 2 (by omega)
  cases e2
  obtain ⟨_, _, e3, -, c3⟩ := h.at 3 (by omega)
  cases e3
  have e : ∀ j (hj : j < (rowB r q).length), (rowB r q)[j] = cellB r q j := fun j hj => by simp [cellB, List.getD, hj]
  rw [e] at c0 c1 c2 c3
  exact ⟨bl, off, cap, by rw [hl], hb, c0, c1, c2, c3⟩

/-- the row and the two answers of entry n -/
def gA : Nat → Nat × Nat × Nat
  | 0 => (0, 0, 3) | 1 => (1, 0, 3) | 2 => (2, 0, 3) | 3 => (3, 1, 2) | 4 => (2, 0, 3) | 5 => (3, 1, 2) | 6 => (0, 0, 3) | _ => (1, 0, 3)
def gHit (n m : Nat) : Bool := (gA n).2.1 == m || (gA n).2.2 == m
def gP (r : BoxD) (n : Nat) : Nat → Int
  | 0 => 0
  | m + 1 => if gHit n m then gP r n m + cellB r (gA n).1 m else gP r n m
def gV (r : BoxD) (n : Nat) : Int := gP r n 4
def boxCodeL (r : BoxD) : List Int := if pairB r then mapR (gV r) 8 else []
theorem gP_bound {r : BoxD} {n : Nat} (h : ∀ j, 0 ≤ cellB r (gA n).1 j ∧ cellB r (gA n).1 j ≤ 1000) : ∀ m, 0 ≤ gP r n m ∧ gP r n m ≤ 1000 * m
  | 0 => by simp [gP]
  | m + 1 => by
    have h1 := gP_bound h m
    have h2 := h m
    unfold gP
    split <;> omega

set_option maxRecDepth 100000 in
set_option maxHeartbeats 40000000 in
theorem c_spec_BoxCode (v : Value) (r : BoxD) (w : World) (h : BoxR w v r) :
    Calls Try.prog 48 #[v] w fun e w' => ∃ v', e = .returned (.tuple #[v', .bool (pairB r)]) ∧ OwnI w' w.heap.size v' (boxCodeL r) ∧ Below w.heap.size w w' := by
  have h2 := h
  obtain ⟨v4, rfl, hr⟩ := id h
  obtain ⟨a4, k4, rfl, l4⟩ := hr.out
  have hA := (Below.refl w.heap.size w).alloc (Nat.le_refl _) (.cells #[.int .i64 r.x, .int .i64 r.y, .int .i64 r.w, .slice a4 r.r.length k4] 50)
  have pB : (w.alloc (.cells #[.int .i64 r.x, .int .i64 r.y, .int .i64 r.w, .slice a4 r.r.length k4] 50)).heap[w.heap.size]? = some (.cells #[.int .i64 r.x, .int .i64 r.y, .int .i64 r.w, .slice a4 r.r.length k4] 50 (0, 0)) := heap_alloc_at rfl
  generalize hbx : Obj.cells #[.int .i64 r.x, .int .i64 r.y, .int .i64 r.w, .slice a4 r.r.length k4] 50 = bx at *
  have hown0 := (by have h := own_empty (w.alloc bx) (w.heap.size + 1) (by simp); simp only [World.size_alloc] at h; exact h : OwnI ((w.alloc bx).alloc (.cells #[] 3)) (w.heap.size + 1) (.slice (some ⟨w.heap.size + 1, 0, none⟩) 0 0) [])
  have hB0 : Below (w.heap.size + 1) (w.alloc bx) ((w.alloc bx).alloc (.cells #[] 3)) := (Below.refl _ _).alloc (by simp) _
  subst hbx
  obtain ⟨⟨z0, z1, z2, z3⟩, -⟩ := blk4 ((hB0.block _ (by omega)).trans pB)
  have hA0 : Below w.heap.size w _ := hA.trans (hB0.mono (by omega))
  cases hp : pairB r
  · have hF : Hid (boxCodeL r = []) := Lib.hid (by simp [boxCodeL, hp])
    replace hp := Lib.hid hp
    go_enter Try.func48, Try.ntmps48
    go_wp2_with fail
    refine (c_l9Two _ r _ (h2.below hA0)).mono ?_
    rintro e w2 ⟨rfl, hB⟩
    rw [hp.out]
    go_wp2
    go_ret2
    exact ⟨_, rfl, by rw [hF.out]; exact (hown0.below hB).mono (by omega), hA0.trans (hB.mono (by simp; omega))⟩
  · obtain ⟨hbb, hxx, hyy, hlen⟩ := pairB_facts hp
    have hF : Hid (boxCodeL r = mapR (gV r) 8) := Lib.hid (by simp [boxCodeL, hp])
    have hcl := fun q (hq : q < 4) => boxB_row hbb (show q < r.r.length by omega)
    have hcb := fun n j => boxB_cell hbb (show (gA n).1 < r.r.length by rw [hlen]; unfold gA; split <;> decide) j
    replace hp := Lib.hid hp
    replace hcl := Lib.hid hcl
    replace hcb := Lib.hid hcb
    replace hbb := Lib.hid hbb
    replace hlen := Lib.hid hlen
    replace hxx := Lib.hid hxx
    replace hyy := Lib.hid hyy
    go_enter Try.func48, Try.ntmps48
    go_wp2_with fail
    refine (c_l9Two _ r _ (h2.below hA0)).mono ?_
    rintro e w2 ⟨rfl, hB⟩
    rw [hp.out]
    have hB2 : Below (w.heap.size + 1) (w.alloc (.cells #[.int .i64 r.x, .int .i64 r.y, .int .i64 r.w, .slice a4 r.r.length k4] 50)) w2 := hB0.trans (hB.mono (by simp))
    have hown2 := hown0.below hB
    clear hB hB0 hown0 z0 z1 z2 z3 hA0
    go_wp2_with fail
    go_loopw [4, 5] (fun v j wr => ∃ k : Nat, k ≤ 4 ∧ j = .int .i64 k ∧ OwnI wr (w.heap.size + 1) v (mapR (gV r) (2 * k)) ∧ Below (w.heap.size + 1) (w.alloc (.cells #[.int .i64 r.x, .int .i64 r.y, .int .i64 r.w, .slice a4 r.r.length k4] 50)) wr) (fun _ j _ => 4 - (intOf j).toNat)
    case atStart => exact ⟨0, Nat.zero_le _, rfl, hown2, hB2⟩
    case round =>
      clear hown2 hB2
      obtain ⟨k, hk, rfl, hown, hB⟩ := hrel
      have hk5 : k = 0 ∨ k = 1 ∨ k = 2 ∨ k = 3 ∨ k = 4 := by omega
      rcases hk5 with rfl | rfl | rfl | rfl | rfl
      · skip
        go_wp2_with fail
        go_loopw [4, 8] (fun v j wr => ∃ i : Nat, i ≤ 2 ∧ j = .int .i64 i ∧ OwnI wr (w.heap.size + 1) v (mapR (gV r) (2 * 0 + i)) ∧ Below (w.heap.size + 1) (w.alloc (.cells #[.int .i64 r.x, .int .i64 r.y, .int .i64 r.w, .slice a4 r.r.length k4] 50)) wr) (fun _ j _ => 2 - (intOf j).toNat)
        case atStart => exact ⟨0, by omega, rfl, hown, hB⟩
        case round =>
          clear hown hB
          obtain ⟨i, hi, rfl, hown3, hB3⟩ := hrel
          have hi3 : i = 0 ∨ i = 1 ∨ i = 2 := by omega
          rcases hi3 with rfl | rfl | rfl
          · skip
            obtain ⟨v0, iv, hcall⟩ := at_l2Row _ r 0 0 2 w h2 hyy.out (by decide) (by rw [hlen.out]; decide)
            rw [show 0 * 2 + 0 = 0 from rfl] at iv
            obtain ⟨bl, off, cap, rfl, hbl, c0, c1, c2, c3⟩ := row_cells iv (hcl.out 0 (by decide)).1
            have hall := hA.trans (hB3.mono (by omega))
            have hcn := hcb.out 0
            have hpn := gP_bound hcn
            rw [show (gA 0).1 = 0 from rfl] at hcn
            obtain ⟨⟨z0, z1, z2, z3⟩, -⟩ := blk4 ((hB3.block _ (by omega)).trans pB)
            replace hcn := Lib.hid hcn
            replace hpn := Lib.hid hpn
            go_wp2_with fail
            refine (hcall _ hall).mono ?_
            clear z0 z1 z2 z3
            rintro e w2 ⟨rfl, hb2⟩
            have up := (bcell (hall.trans (hb2.mono hall.size))).1
            rw [← up _ _ hbl] at c0 c1 c2 c3
            clear up
            have hown4 := hown3.below hb2
            have hB4 := hB3.trans (hb2.mono (by have := hB3.size; simp at this; omega))
            clear hown3 hB3 hb2 hall
            go_wp2_with fail
            go_loop [10, 11] (fun s j => ∃ m : Nat, m ≤ 4 ∧ j = .int .i64 m ∧ s = .int .i64 (gP r 0 m)) (fun _ j => 4 - (intOf j).toNat)
            case atStart => exact ⟨0, by omega, rfl, rfl⟩
            case round =>
              obtain ⟨m, hm, rfl, rfl⟩ := hrel
              have hm5 : m = 0 ∨ m = 1 ∨ m = 2 ∨ m = 3 ∨ m = 4 := by omega
              have hpm := hpn.out m
              have hcm := hcn.out m
              rcases hm5 with rfl | rfl | rfl | rfl | rfl
              · skip
                have hs : Hid (gP r 0 (0 + 1) = gP r 0 0 + cellB r 0 0) := Lib.hid rfl
                go_wp2
                go_round
                case rel => exact ⟨0 + 1, by omega, by go_num, by rw [hs.out]⟩
                case measure => simp [intOf]
              · skip
                have hs : Hid (gP r 0 (1 + 1) = gP r 0 1) := Lib.hid rfl
                go_wp2
                go_round
                case rel => exact ⟨1 + 1, by omega, by go_num, by rw [hs.out]⟩
                case measure => simp [intOf]
              · skip
                have hs : Hid (gP r 0 (2 + 1) = gP r 0 2) := Lib.hid rfl
                go_wp2
                go_round
                case rel => exact ⟨2 + 1, by omega, by go_num, by rw [hs.out]⟩
                case measure => simp [intOf]
              · skip
                have hs : Hid (gP r 0 (3 + 1) = gP r 0 3 + cellB r 0 3) := Lib.hid rfl
                go_wp2
                go_round
                case rel => exact ⟨3 + 1, by omega, by go_num, by rw [hs.out]⟩
                case measure => simp [intOf]
              · have hsz := hB4.size
                simp only [World.size_alloc] at hsz
                go_wp2_with (at_builtin; refine wp_append_int _ _ rfl _ _ rfl (w.heap.size + 1) _ _ rfl hown4 rfl (by first | rfl | simp) (by rw [mapR_len]; omega) (by omega) ?_; intro v' w5 hown5 _ hB5 _)
                have hB6 := hB4.trans hB5
                replace hown5 : OwnI w5 (w.heap.size + 1) v' (mapR (gV r) (2 * 0 + (0 + 1))) := by rw [show 2 * 0 + (0 + 1) = 0 + 1 from rfl, mapR_succ]; exact hown5
                go_roundw
                case rel => exact ⟨0 + 1, by omega, by go_num, hown5, hB6⟩
                case measure => simp [intOf]
          · skip
            obtain ⟨v0, iv, hcall⟩ := at_l2Row _ r 0 1 2 w h2 hyy.out (by decide) (by rw [hlen.out]; decide)
            rw [show 0 * 2 + 1 = 1 from rfl] at iv
            obtain ⟨bl, off, cap, rfl, hbl, c0, c1, c2, c3⟩ := row_cells iv (hcl.out 1 (by decide)).1
            have hall := hA.trans (hB3.mono (by omega))
            have hcn := hcb.out 1
            have hpn := gP_bound hcn
            rw [show (gA 1).1 = 1 from rfl] at hcn
            obtain ⟨⟨z0, z1, z2, z3⟩, -⟩ := blk4 ((hB3.block _ (by omega)).trans pB)
            replace hcn := Lib.hid hcn
            replace hpn := Lib.hid hpn
            go_wp2_with fail
            refine (hcall _ hall).mono ?_
            clear z0 z1 z2 z3
            rintro e w2 ⟨rfl, hb2⟩
            have up := (bcell (hall.trans (hb2.mono hall.size))).1
            rw [← up _ _ hbl] at c0 c1 c2 c3
            clear up
            have hown4 := hown3.below hb2
            have hB4 := hB3.trans (hb2.mono (by have := hB3.size; simp at this; omega))
            clear hown3 hB3 hb2 hall
            go_wp2_with fail
            go_loop [10, 11] (fun s j => ∃ m : Nat, m ≤ 4 ∧ j = .int .i64 m ∧ s = .int .i64 (gP r 1 m)) (fun _ j => 4 - (intOf j).toNat)
            case atStart => exact ⟨0, by omega, rfl, rfl⟩
            case round =>
              obtain ⟨m, hm, rfl, rfl⟩ := hrel
              have hm5 : m = 0 ∨ m = 1 ∨ m = 2 ∨ m = 3 ∨ m = 4 := by omega
              have hpm := hpn.out m
              have hcm := hcn.out m
              rcases hm5 with rfl | rfl | rfl | rfl | rfl
              · skip
                have hs : Hid (gP r 1 (0 + 1) = gP r 1 0 + cellB r 1 0) := Lib.hid rfl
                go_wp2
                go_round
                case rel => exact ⟨0 + 1, by omega, by go_num, by rw [hs.out]⟩
                case measure => simp [intOf]
              · skip
                have hs : Hid (gP r 1 (1 + 1) = gP r 1 1) := Lib.hid rfl
                go_wp2
                go_round
                case rel => exact ⟨1 + 1, by omega, by go_num, by rw [hs.out]⟩
                case measure => simp [intOf]
              · skip
                have hs : Hid (gP r 1 (2 + 1) = gP r 1 2) := Lib.hid rfl
                go_wp2
                go_round
                case rel => exact ⟨2 + 1, by omega, by go_num, by rw [hs.out]⟩
                case measure => simp [intOf]
              · skip
                have hs : Hid (gP r 1 (3 + 1) = gP r 1 3 + cellB r 1 3) := Lib.hid rfl
                go_wp2
                go_round
                case rel => exact ⟨3 + 1, by omega, by go_num, by rw [hs.out]⟩
                case measure => simp [intOf]
              · have hsz := hB4.size
                simp only [World.size_alloc] at hsz
                go_wp2_with (at_builtin; refine wp_append_int _ _ rfl _ _ rfl (w.heap.size + 1) _ _ rfl hown4 rfl (by first | rfl | simp) (by rw [mapR_len]; omega) (by omega) ?_; intro v' w5 hown5 _ hB5 _)
                have hB6 := hB4.trans hB5
                replace hown5 : OwnI w5 (w.heap.size + 1) v' (mapR (gV r) (2 * 0 + (1 + 1))) := by rw [show 2 * 0 + (1 + 1) = 1 + 1 from rfl, mapR_succ]; exact hown5
                go_roundw
                case rel => exact ⟨1 + 1, by omega, by go_num, hown5, hB6⟩
                case measure => simp [intOf]
          · go_wp2
            go_roundw
            case rel => exact ⟨0 + 1, by omega, by go_num, hown3, hB3⟩
            case measure => simp [intOf]
      · skip
        go_wp2_with fail
        go_loopw [4, 8] (fun v j wr => ∃ i : Nat, i ≤ 2 ∧ j = .int .i64 i ∧ OwnI wr (w.heap.size + 1) v (mapR (gV r) (2 * 1 + i)) ∧ Below (w.heap.size + 1) (w.alloc (.cells #[.int .i64 r.x, .int .i64 r.y, .int .i64 r.w, .slice a4 r.r.length k4] 50)) wr) (fun _ j _ => 2 - (intOf j).toNat)
        case atStart => exact ⟨0, by omega, rfl, hown, hB⟩
        case round =>
          clear hown hB
          obtain ⟨i, hi, rfl, hown3, hB3⟩ := hrel
          have hi3 : i = 0 ∨ i = 1 ∨ i = 2 := by omega
          rcases hi3 with rfl | rfl | rfl
          · skip
            obtain ⟨v0, iv, hcall⟩ := at_l2Row _ r 1 0 2 w h2 hyy.out (by decide) (by rw [hlen.out]; decide)
            rw [show 1 * 2 + 0 = 2 from rfl] at iv
            obtain ⟨bl, off, cap, rfl, hbl, c0, c1, c2, c3⟩ := row_cells iv (hcl.out 2 (by decide)).1
            have hall := hA.trans (hB3.mono (by omega))
            have hcn := hcb.out 2
            have hpn := gP_bound hcn
            rw [show (gA 2).1 = 2 from rfl] at hcn
            obtain ⟨⟨z0, z1, z2, z3⟩, -⟩ := blk4 ((hB3.block _ (by omega)).trans pB)
            replace hcn := Lib.hid hcn
            replace hpn := Lib.hid hpn
            go_wp2_with fail
            refine (hcall _ hall).mono ?_
            clear z0 z1 z2 z3
            rintro e w2 ⟨rfl, hb2⟩
            have up := (bcell (hall.trans (hb2.mono hall.size))).1
            rw [← up _ _ hbl] at c0 c1 c2 c3
            clear up
            have hown4 := hown3.below hb2
            have hB4 := hB3.trans (hb2.mono (by have := hB3.size; simp at this; omega))
            clear hown3 hB3 hb2 hall
            go_wp2_with fail
            go_loop [10, 11] (fun s j => ∃ m : Nat, m ≤ 4 ∧ j = .int .i64 m ∧ s = .int .i64 (gP r 2 m)) (fun _ j => 4 - (intOf j).toNat)
            case atStart => exact ⟨0, by omega, rfl, rfl⟩
            case round =>
              obtain ⟨m, hm, rfl, rfl⟩ := hrel
              have hm5 : m = 0 ∨ m = 1 ∨ m = 2 ∨ m = 3 ∨ m = 4 := by omega
              have hpm := hpn.out m
              have hcm := hcn.out m
              rcases hm5 with rfl | rfl | rfl | rfl | rfl
              · skip
                have hs : Hid (gP r 2 (0 + 1) = gP r 2 0 + cellB r 2 0) := Lib.hid rfl
                go_wp2
                go_round
                case rel => exact ⟨0 + 1, by omega, by go_num, by rw [hs.out]⟩
                case measure => simp [intOf]
              · skip
                have hs : Hid (gP r 2 (1 + 1) = gP r 2 1) := Lib.hid rfl
                go_wp2
                go_round
                case rel => exact ⟨1 + 1, by omega, by go_num, by rw [hs.out]⟩
                case measure => simp [intOf]
              · skip
                have hs : Hid (gP r 2 (2 + 1) = gP r 2 2) := Lib.hid rfl
                go_wp2
                go_round
                case rel => exact ⟨2 + 1, by omega, by go_num, by rw [hs.out]⟩
                case measure => simp [intOf]
              · skip
                have hs : Hid (gP r 2 (3 + 1) = gP r 2 3 + cellB r 2 3) := Lib.hid rfl
                go_wp2
                go_round
                case rel => exact ⟨3 + 1, by omega, by go_num, by rw [hs.out]⟩
                case measure => simp [intOf]
              · have hsz := hB4.size
                simp only [World.size_alloc] at hsz
                go_wp2_with (at_builtin; refine wp_append_int _ _ rfl _ _ rfl (w.heap.size + 1) _ _ rfl hown4 rfl (by first | rfl | simp) (by rw [mapR_len]; omega) (by omega) ?_; intro v' w5 hown5 _ hB5 _)
                have hB6 := hB4.trans hB5
                replace hown5 : OwnI w5 (w.heap.size + 1) v' (mapR (gV r) (2 * 1 + (0 + 1))) := by rw [show 2 * 1 + (0 + 1) = 2 + 1 from rfl, mapR_succ]; exact hown5
                go_roundw
                case rel => exact ⟨0 + 1, by omega, by go_num, hown5, hB6⟩
                case measure => simp [intOf]
          · skip
            obtain ⟨v0, iv, hcall⟩ := at_l2Row _ r 1 1 2 w h2 hyy.out (by decide) (by rw [hlen.out]; decide)
            rw [show 1 * 2 + 1 = 3 from rfl] at iv
            obtain ⟨bl, off, cap, rfl, hbl, c0, c1, c2, c3⟩ := row_cells iv (hcl.out 3 (by decide)).1
            have hall := hA.trans (hB3.mono (by omega))
            have hcn := hcb.out 3
            have hpn := gP_bound hcn
            rw [show (gA 3).1 = 3 from rfl] at hcn
            obtain ⟨⟨z0, z1, z2, z3⟩, -⟩ := blk4 ((hB3.block _ (by omega)).trans pB)
            replace hcn := Lib.hid hcn
            replace hpn := Lib.hid hpn
            go_wp2_with fail
            refine (hcall _ hall).mono ?_
            clear z0 z1 z2 z3
            rintro e w2 ⟨rfl, hb2⟩
            have up := (bcell (hall.trans (hb2.mono hall.size))).1
            rw [← up _ _ hbl] at c0 c1 c2 c3
            clear up
            have hown4 := hown3.below hb2
            have hB4 := hB3.trans (hb2.mono (by have := hB3.size; simp at this; omega))
            clear hown3 hB3 hb2 hall
            go_wp2_with fail
            go_loop [10, 11] (fun s j => ∃ m : Nat, m ≤ 4 ∧ j = .int .i64 m ∧ s = .int .i64 (gP r 3 m)) (fun _ j => 4 - (intOf j).toNat)
            case atStart => exact ⟨0, by omega, rfl, rfl⟩
            case round =>
              obtain ⟨m, hm, rfl, rfl⟩ := hrel
              have hm5 : m = 0 ∨ m = 1 ∨ m = 2 ∨ m = 3 ∨ m = 4 := by omega
              have hpm := hpn.out m
              have hcm := hcn.out m
              rcases hm5 with rfl | rfl | rfl | rfl | rfl
              · skip
                have hs : Hid (gP r 3 (0 + 1) = gP r 3 0) := Lib.hid rfl
                go_wp2
                go_round
                case rel => exact ⟨0 + 1, by omega, by go_num, by rw [hs.out]⟩
                case measure => simp [intOf]
              · skip
                have hs : Hid (gP r 3 (1 + 1) = gP r 3 1 + cellB r 3 1) := Lib.hid rfl
                go_wp2
                go_round
                case rel => exact ⟨1 + 1, by omega, by go_num, by rw [hs.out]⟩
                case measure => simp [intOf]
              · skip
                have hs : Hid (gP r 3 (2 + 1) = gP r 3 2 + cellB r 3 2) := Lib.hid rfl
                go_wp2
                go_round
                case rel => exact ⟨2 + 1, by omega, by go_num, by rw [hs.out]⟩
                case measure => simp [intOf]
              · skip
                have hs : Hid (gP r 3 (3 + 1) = gP r 3 3) := Lib.hid rfl
                go_wp2
                go_round
                case rel => exact ⟨3 + 1, by omega, by go_num, by rw [hs.out]⟩
                case measure => simp [intOf]
              · have hsz := hB4.size
                simp only [World.size_alloc] at hsz
                go_wp2_with (at_builtin; refine wp_append_int _ _ rfl _ _ rfl (w.heap.size + 1) _ _ rfl hown4 rfl (by first | rfl | simp) (by rw [mapR_len]; omega) (by omega) ?_; intro v' w5 hown5 _ hB5 _)
                have hB6 := hB4.trans hB5
                replace hown5 : OwnI w5 (w.heap.size + 1) v' (mapR (gV r) (2 * 1 + (1 + 1))) := by rw [show 2 * 1 + (1 + 1) = 3 + 1 from rfl, mapR_succ]; exact hown5
                go_roundw
                case rel => exact ⟨1 + 1, by omega, by go_num, hown5, hB6⟩
                case measure => simp [intOf]
          · go_wp2
            go_roundw
            case rel => exact ⟨1 + 1, by omega, by go_num, hown3, hB3⟩
            case measure => simp [intOf]
      · skip
        go_wp2_with fail
        go_loopw [4, 8] (fun v j wr => ∃ i : Nat, i ≤ 2 ∧ j = .int .i64 i ∧ OwnI wr (w.heap.size + 1) v (mapR (gV r) (2 * 2 + i)) ∧ Below (w.heap.size + 1) (w.alloc (.cells #[.int .i64 r.x, .int .i64 r.y, .int .i64 r.w, .slice a4 r.r.length k4] 50)) wr) (fun _ j _ => 2 - (intOf j).toNat)
        case atStart => exact ⟨0, by omega, rfl, hown, hB⟩
        case round =>
          clear hown hB
          obtain ⟨i, hi, rfl, hown3, hB3⟩ := hrel
          have hi3 : i = 0 ∨ i = 1 ∨ i = 2 := by omega
          rcases hi3 with rfl | rfl | rfl
          · skip
            obtain ⟨v0, iv, hcall⟩ := at_l2Row _ r 1 0 2 w h2 hyy.out (by decide) (by rw [hlen.out]; decide)
            rw [show 1 * 2 + 0 = 2 from rfl] at iv
            obtain ⟨bl, off, cap, rfl, hbl, c0, c1, c2, c3⟩ := row_cells iv (hcl.out 2 (by decide)).1
            have hall := hA.trans (hB3.mono (by omega))
            have hcn := hcb.out 4
            have hpn := gP_bound hcn
            rw [show (gA 4).1 = 2 from rfl] at hcn
            obtain ⟨⟨z0, z1, z2, z3⟩, -⟩ := blk4 ((hB3.block _ (by omega)).trans pB)
            replace hcn := Lib.hid hcn
            replace hpn := Lib.hid hpn
            go_wp2_with fail
            refine (hcall _ hall).mono ?_
            clear z0 z1 z2 z3
            rintro e w2 ⟨rfl, hb2⟩
            have up := (bcell (hall.trans (hb2.mono hall.size))).1
            rw [← up _ _ hbl] at c0 c1 c2 c3
            clear up
            have hown4 := hown3.below hb2
            have hB4 := hB3.trans (hb2.mono (by have := hB3.size; simp at this; omega))
            clear hown3 hB3 hb2 hall
            go_wp2_with fail
            go_loop [10, 11] (fun s j => ∃ m : Nat, m ≤ 4 ∧ j = .int .i64 m ∧ s = .int .i64 (gP r 4 m)) (fun _ j => 4 - (intOf j).toNat)
            case atStart => exact ⟨0, by omega, rfl, rfl⟩
            case round =>
              obtain ⟨m, hm, rfl, rfl⟩ := hrel
              have hm5 : m = 0 ∨ m = 1 ∨ m = 2 ∨ m = 3 ∨ m = 4 := by omega
              have hpm := hpn.out m
              have hcm := hcn.out m
              rcases hm5 with rfl | rfl | rfl | rfl | rfl
              · skip
                have hs : Hid (gP r 4 (0 + 1) = gP r 4 0 + cellB r 2 0) := Lib.hid rfl
                go_wp2
                go_round
                case rel => exact ⟨0 + 1, by omega, by go_num, by rw [hs.out]⟩
                case measure => simp [intOf]
              · skip
                have hs : Hid (gP r 4 (1 + 1) = gP r 4 1) := Lib.hid rfl
                go_wp2
                go_round
                case rel => exact ⟨1 + 1, by omega, by go_num, by rw [hs.out]⟩
                case measure => simp [intOf]
              · skip
                have hs : Hid (gP r 4 (2 + 1) = gP r 4 2) := Lib.hid rfl
                go_wp2
                go_round
                case rel => exact ⟨2 + 1, by omega, by go_num, by rw [hs.out]⟩
                case measure => simp [intOf]
              · skip
                have hs : Hid (gP r 4 (3 + 1) = gP r 4 3 + cellB r 2 3) := Lib.hid rfl
                go_wp2
                go_round
                case rel => exact ⟨3 + 1, by omega, by go_num, by rw [hs.out]⟩
                case measure => simp [intOf]
              · have hsz := hB4.size
                simp only [World.size_alloc] at hsz
                go_wp2_with (at_builtin; refine wp_append_int _ _ rfl _ _ rfl (w.heap.size + 1) _ _ rfl hown4 rfl (by first | rfl | simp) (by rw [mapR_len]; omega) (by omega) ?_; intro v' w5 hown5 _ hB5 _)
                have hB6 := hB4.trans hB5
                replace hown5 : OwnI w5 (w.heap.size + 1) v' (mapR (gV r) (2 * 2 + (0 + 1))) := by rw [show 2 * 2 + (0 + 1) = 4 + 1 from rfl, mapR_succ]; exact hown5
                go_roundw
                case rel => exact ⟨0 + 1, by omega, by go_num, hown5, hB6⟩
                case measure => simp [intOf]
          · skip
            obtain ⟨v0, iv, hcall⟩ := at_l2Row _ r 1 1 2 w h2 hyy.out (by decide) (by rw [hlen.out]; decide)
            rw [show 1 * 2 + 1 = 3 from rfl] at iv
            obtain ⟨bl, off, cap, rfl, hbl, c0, c1, c2, c3⟩ := row_cells iv (hcl.out 3 (by decide)).1
            have hall := hA.trans (hB3.mono (by omega))
            have hcn := hcb.out 5
            have hpn := gP_bound hcn
            rw [show (gA 5).1 = 3 from rfl] at hcn
            obtain ⟨⟨z0, z1, z2, z3⟩, -⟩ := blk4 ((hB3.block _ (by omega)).trans pB)
            replace hcn := Lib.hid hcn
            replace hpn := Lib.hid hpn
            go_wp2_with fail
            refine (hcall _ hall).mono ?_
            clear z0 z1 z2 z3
            rintro e w2 ⟨rfl, hb2⟩
            have up := (bcell (hall.trans (hb2.mono hall.size))).1
            rw [← up _ _ hbl] at c0 c1 c2 c3
            clear up
            have hown4 := hown3.below hb2
            have hB4 := hB3.trans (hb2.mono (by have := hB3.size; simp at this; omega))
            clear hown3 hB3 hb2 hall
            go_wp2_with fail
            go_loop [10, 11] (fun s j => ∃ m : Nat, m ≤ 4 ∧ j = .int .i64 m ∧ s = .int .i64 (gP r 5 m)) (fun _ j => 4 - (intOf j).toNat)
            case atStart => exact ⟨0, by omega, rfl, rfl⟩
            case round =>
              obtain ⟨m, hm, rfl, rfl⟩ := hrel
              have hm5 : m = 0 ∨ m = 1 ∨ m = 2 ∨ m = 3 ∨ m = 4 := by omega
              have hpm := hpn.out m
              have hcm := hcn.out m
              rcases hm5 with rfl | rfl | rfl | rfl | rfl
              · skip
                have hs : Hid (gP r 5 (0 + 1) = gP r 5 0) := Lib.hid rfl
                go_wp2
                go_round
                case rel => exact ⟨0 + 1, by omega, by go_num, by rw [hs.out]⟩
                case measure => simp [intOf]
              · skip
                have hs : Hid (gP r 5 (1 + 1) = gP r 5 1 + cellB r 3 1) := Lib.hid rfl
                go_wp2
                go_round
                case rel => exact ⟨1 + 1, by omega, by go_num, by rw [hs.out]⟩
                case measure => simp [intOf]
              · skip
                have hs : Hid (gP r 5 (2 + 1) = gP r 5 2 + cellB r 3 2) := Lib.hid rfl
                go_wp2
                go_round
                case rel => exact ⟨2 + 1, by omega, by go_num, by rw [hs.out]⟩
                case measure => simp [intOf]
              · skip
                have hs : Hid (gP r 5 (3 + 1) = gP r 5 3) := Lib.hid rfl
                go_wp2
                go_round
                case rel => exact ⟨3 + 1, by omega, by go_num, by rw [hs.out]⟩
                case measure => simp [intOf]
              · have hsz := hB4.size
                simp only [World.size_alloc] at hsz
                go_wp2_with (at_builtin; refine wp_append_int _ _ rfl _ _ rfl (w.heap.size + 1) _ _ rfl hown4 rfl (by first | rfl | simp) (by rw [mapR_len]; omega) (by omega) ?_; intro v' w5 hown5 _ hB5 _)
                have hB6 := hB4.trans hB5
                replace hown5 : OwnI w5 (w.heap.size + 1) v' (mapR (gV r) (2 * 2 + (1 + 1))) := by rw [show 2 * 2 + (1 + 1) = 5 + 1 from rfl, mapR_succ]; exact hown5
                go_roundw
                case rel => exact ⟨1 + 1, by omega, by go_num, hown5, hB6⟩
                case measure => simp [intOf]
          · go_wp2
            go_roundw
            case rel => exact ⟨2 + 1, by omega, by go_num, hown3, hB3⟩
            case measure => simp [intOf]
      · skip
        go_wp2_with fail
        go_loopw [4, 8] (fun v j wr => ∃ i : Nat, i ≤ 2 ∧ j = .int .i64 i ∧ OwnI wr (w.heap.size + 1) v (mapR (gV r) (2 * 3 + i)) ∧ Below (w.heap.size + 1) (w.alloc (.cells #[.int .i64 r.x, .int .i64 r.y, .int .i64 r.w, .slice a4 r.r.length k4] 50)) wr) (fun _ j _ => 2 - (intOf j).toNat)
        case atStart => exact ⟨0, by omega, rfl, hown, hB⟩
        case round =>
          clear hown hB
          obtain ⟨i, hi, rfl, hown3, hB3⟩ := hrel
          have hi3 : i = 0 ∨ i = 1 ∨ i = 2 := by omega
          rcases hi3 with rfl | rfl | rfl
          · skip
            obtain ⟨v0, iv, hcall⟩ := at_l2Row _ r 0 0 2 w h2 hyy.out (by decide) (by rw [hlen.out]; decide)
            rw [show 0 * 2 + 0 = 0 from rfl] at iv
            obtain ⟨bl, off, cap, rfl, hbl, c0, c1, c2, c3⟩ := row_cells iv (hcl.out 0 (by decide)).1
            have hall := hA.trans (hB3.mono (by omega))
            have hcn := hcb.out 6
            have hpn := gP_bound hcn
            rw [show (gA 6).1 = 0 from rfl] at hcn
            obtain ⟨⟨z0, z1, z2, z3⟩, -⟩ := blk4 ((hB3.block _ (by omega)).trans pB)
            replace hcn := Lib.hid hcn
            replace hpn := Lib.hid hpn
            go_wp2_with fail
            refine (hcall _ hall).mono ?_
            clear z0 z1 z2 z3
            rintro e w2 ⟨rfl, hb2⟩
            have up := (bcell (hall.trans (hb2.mono hall.size))).1
            rw [← up _ _ hbl] at c0 c1 c2 c3
            clear up
            have hown4 := hown3.below hb2
            have hB4 := hB3.trans (hb2.mono (by have := hB3.size; simp at this; omega))
            clear hown3 hB3 hb2 hall
            go_wp2_with fail
            go_loop [10, 11] (fun s j => ∃ m : Nat, m ≤ 4 ∧ j = .int .i64 m ∧ s = .int .i64 (gP r 6 m)) (fun _ j => 4 - (intOf j).toNat)
            case atStart => exact ⟨0, by omega, rfl, rfl⟩
            case round =>
              obtain ⟨m, hm, rfl, rfl⟩ := hrel
              have hm5 : m = 0 ∨ m = 1 ∨ m = 2 ∨ m = 3 ∨ m = 4 := by omega
              have hpm := hpn.out m
              have hcm := hcn.out m
              rcases hm5 with rfl | rfl | rfl | rfl | rfl
              · skip
                have hs : Hid (gP r 6 (0 + 1) = gP r 6 0 + cellB r 0 0) := Lib.hid rfl
                go_wp2
                go_round
                case rel => exact ⟨0 + 1, by omega, by go_num, by rw [hs.out]⟩
                case measure => simp [intOf]
              · skip
                have hs : Hid (gP r 6 (1 + 1) = gP r 6 1) := Lib.hid rfl
                go_wp2
                go_round
                case rel => exact ⟨1 + 1, by omega, by go_num, by rw [hs.out]⟩
                case measure => simp [intOf]
              · skip
                have hs : Hid (gP r 6 (2 + 1) = gP r 6 2) := Lib.hid rfl
                go_wp2
                go_round
                case rel => exact ⟨2 + 1, by omega, by go_num, by rw [hs.out]⟩
                case measure => simp [intOf]
              · skip
                have hs : Hid (gP r 6 (3 + 1) = gP r 6 3 + cellB r 0 3) := Lib.hid rfl
                go_wp2
                go_round
                case rel => exact ⟨3 + 1, by omega, by go_num, by rw [hs.out]⟩
                case measure => simp [intOf]
              · have hsz := hB4.size
                simp only [World.size_alloc] at hsz
                go_wp2_with (at_builtin; refine wp_append_int _ _ rfl _ _ rfl (w.heap.size + 1) _ _ rfl hown4 rfl (by first | rfl | simp) (by rw [mapR_len]; omega) (by omega) ?_; intro v' w5 hown5 _ hB5 _)
                have hB6 := hB4.trans hB5
                replace hown5 : OwnI w5 (w.heap.size + 1) v' (mapR (gV r) (2 * 3 + (0 + 1))) := by rw [show 2 * 3 + (0 + 1) = 6 + 1 from rfl, mapR_succ]; exact hown5
                go_roundw
                case rel => exact ⟨0 + 1, by omega, by go_num, hown5, hB6⟩
                case measure => simp [intOf]
          · skip
            obtain ⟨v0, iv, hcall⟩ := at_l2Row _ r 0 1 2 w h2 hyy.out (by decide) (by rw [hlen.out]; decide)
            rw [show 0 * 2 + 1 = 1 from rfl] at iv
            obtain ⟨bl, off, cap, rfl, hbl, c0, c1, c2, c3⟩ := row_cells iv (hcl.out 1 (by decide)).1
            have hall := hA.trans (hB3.mono (by omega))
            have hcn := hcb.out 7
            have hpn := gP_bound hcn
            rw [show (gA 7).1 = 1 from rfl] at hcn
            obtain ⟨⟨z0, z1, z2, z3⟩, -⟩ := blk4 ((hB3.block _ (by omega)).trans pB)
            replace hcn := Lib.hid hcn
            replace hpn := Lib.hid hpn
            go_wp2_with fail
            refine (hcall _ hall).mono ?_
            clear z0 z1 z2 z3
            rintro e w2 ⟨rfl, hb2⟩
            have up := (bcell (hall.trans (hb2.mono hall.size))).1
            rw [← up _ _ hbl] at c0 c1 c2 c3
            clear up
            have hown4 := hown3.below hb2
            have hB4 := hB3.trans (hb2.mono (by have := hB3.size; simp at this; omega))
            clear hown3 hB3 hb2 hall
            go_wp2_with fail
            go_loop [10, 11] (fun s j => ∃ m : Nat, m ≤ 4 ∧ j = .int .i64 m ∧ s = .int .i64 (gP r 7 m)) (fun _ j => 4 - (intOf j).toNat)
            case atStart => exact ⟨0, by omega, rfl, rfl⟩
            case round =>
              obtain ⟨m, hm, rfl, rfl⟩ := hrel
              have hm5 : m = 0 ∨ m = 1 ∨ m = 2 ∨ m = 3 ∨ m = 4 := by omega
              have hpm := hpn.out m
              have hcm := hcn.out m
              rcases hm5 with rfl | rfl | rfl | rfl | rfl
              · skip
                have hs : Hid (gP r 7 (0 + 1) = gP r 7 0 + cellB r 1 0) := Lib.hid rfl
                go_wp2
                go_round
                case rel => exact ⟨0 + 1, by omega, by go_num, by rw [hs.out]⟩
                case measure => simp [intOf]
              · skip
                have hs : Hid (gP r 7 (1 + 1) = gP r 7 1) := Lib.hid rfl
                go_wp2
                go_round
                case rel => exact ⟨1 + 1, by omega, by go_num, by rw [hs.out]⟩
                case measure => simp [intOf]
              · skip
                have hs : Hid (gP r 7 (2 + 1) = gP r 7 2) := Lib.hid rfl
                go_wp2
                go_round
                case rel => exact ⟨2 + 1, by omega, by go_num, by rw [hs.out]⟩
                case measure => simp [intOf]
              · skip
                have hs : Hid (gP r 7 (3 + 1) = gP r 7 3 + cellB r 1 3) := Lib.hid rfl
                go_wp2
                go_round
                case rel => exact ⟨3 + 1, by omega, by go_num, by rw [hs.out]⟩
                case measure => simp [intOf]
              · have hsz := hB4.size
                simp only [World.size_alloc] at hsz
                go_wp2_with (at_builtin; refine wp_append_int _ _ rfl _ _ rfl (w.heap.size + 1) _ _ rfl hown4 rfl (by first | rfl | simp) (by rw [mapR_len]; omega) (by omega) ?_; intro v' w5 hown5 _ hB5 _)
                have hB6 := hB4.trans hB5
                replace hown5 : OwnI w5 (w.heap.size + 1) v' (mapR (gV r) (2 * 3 + (1 + 1))) := by rw [show 2 * 3 + (1 + 1) = 7 + 1 from rfl, mapR_succ]; exact hown5
                go_roundw
                case rel => exact ⟨1 + 1, by omega, by go_num, hown5, hB6⟩
                case measure => simp [intOf]
          · go_wp2
            go_roundw
            case rel => exact ⟨3 + 1, by omega, by go_num, hown3, hB3⟩
            case measure => simp [intOf]
      · go_wp2
        go_ret2
        exact ⟨_, rfl, by rw [hF.out]; exact hown.mono (by omega), hA.trans (hB.mono (by omega))⟩
end Go.Proofs.Ytmdpblckjeochaa
