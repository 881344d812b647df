/- Quiet boxes of two questions on the law's side, and boxes of chains on both; conditions: none. -/
import Derived.Test.YtjeaeninpmaoiaaJ6
namespace Go.Proofs.Ytjeaeninpmaoiaa
open Go.RowKit

set_option maxRecDepth 100000 in
set_option maxHeartbeats 4000000 in
theorem c_l2One0 (v : Value) (r : BoxD) (q : Nat) (w : World) (h : Ints w v (rowB r q)) (hl : (rowB r q).length = 4) (hcb : ∀ j, 0 ≤ cellB r q j ∧ cellB r q j ≤ 1000) :
    Calls Try.prog 127 #[v, .int .i64 0] w fun e w' => e = .returned (.int .i64 (one0 r q)) ∧ Below w.heap.size w w' := by
  obtain ⟨bl, off, cap, rfl, hbl, c0, c1, c2, c3⟩ := row_cells h hl
  have b1 := hcb 2
  have b2 := hcb 3
  have hv : Hid (one0 r q = cellB r q 2 + cellB r q 3) := Lib.hid rfl
  replace hcb := Lib.hid hcb
  replace hl := Lib.hid hl
  rw [hv.out]
  go_enter Try.func127, Try.ntmps127
  go_wp2_with fail
  refine wp_region_rk (by kernel_rfl) [none, none, none, none, some 7, none, none, some 0, some 1, some 2, some 3, some 4, some 5, some 6] 7 (by kernel_rfl) (by kernel_rfl) (by kernel_rfl) _ rfl w.heap.size [rkV (.slice (some ⟨bl, off, none⟩) 4 cap), rkV (.pointer (some ⟨bl, off + 2, none⟩)), rkV (.int .i64 (cellB r q 2)), rkV (.slice (some ⟨bl, off, none⟩) 4 cap), rkV (.pointer (some ⟨bl, off + 3, none⟩)), rkV (.int .i64 (cellB r q 3)), rkV (.int .i64 (cellB r q 2 + cellB r q 3))] _ rfl (by kernel_rfl) (by simp) ?_ ?_
  · intro i o ho hi u g ww hbw hd
    have hall : Below w.heap.size w ww := hbw
    have hlow : w.heap.size ≤ ww.heap.size := hall.size
    obtain ⟨hcl, hfr⟩ := bcell hbw
    have y_c2 := (hcl _ _ (by omega)).trans c2
    have y_c3 := (hcl _ _ (by omega)).trans c3
    clear hcl hfr
    rcases i with _ | _ | _ | _ | _ | _ | _ | _ | i
    all_goals try obtain rfl := Option.some.inj ho
    all_goals try simp only [putAll, fillL]
    · go_wp2
      exact ⟨_, rfl, kept0 (Below.refl _ _), rfl⟩
    · have e0 : u 0 = .slice (some ⟨bl, off, none⟩) 4 cap := hd 0 (by decide)
      rw [e0]
      go_wp2
      exact ⟨_, by simp only [putAll, fillL, e0] <;> rfl, kept0 (Below.refl _ _), rfl⟩
    · have e1 : u 1 = .pointer (some ⟨bl, off + 2, none⟩) := hd 1 (by decide)
      rw [e1]
      go_wp2
      exact ⟨_, by simp only [putAll, fillL, e1] <;> rfl, kept0 (Below.refl _ _), rfl⟩
    · go_wp2
      exact ⟨_, rfl, kept0 (Below.refl _ _), rfl⟩
    · have e3 : u 3 = .slice (some ⟨bl, off, none⟩) 4 cap := hd 3 (by decide)
      rw [e3]
      go_wp2
      exact ⟨_, by simp only [putAll, fillL, e3] <;> rfl, kept0 (Below.refl _ _), rfl⟩
    · have e4 : u 4 = .pointer (some ⟨bl, off + 3, none⟩) := hd 4 (by decide)
      rw [e4]
      go_wp2
      exact ⟨_, by simp only [putAll, fillL, e4] <;> rfl, kept0 (Below.refl _ _), rfl⟩
    · have e2 : u 2 = .int .i64 (cellB r q 2) := hd 2 (by decide)
      rw [e2]
      have e5 : u 5 = .int .i64 (cellB r q 3) := hd 5 (by decide)
      rw [e5]
      go_wp2
      exact ⟨_, by simp only [putAll, fillL, e2, e5] <;> rfl, kept0 (Below.refl _ _), rfl⟩
    · exact absurd rfl hi
    · simp at ho
  · intro u g w5 hbw hR hAp
    have e6 : u 6 = .int .i64 (cellB r q 2 + cellB r q 3) := hR 6 (by decide) (by decide)
    clear hR hAp c0 c1 c2 c3
    simp only [putAll, fillL]
    rw [e6]
    go_wp2
    go_ret
    exact ⟨rfl, hbw⟩
set_option maxRecDepth 100000 in
set_option maxHeartbeats 4000000 in
theorem c_l2One1 (v : Value) (r : BoxD) (q : Nat) (w : World) (h : Ints w v (rowB r q)) (hl : (rowB r q).length = 4) (hcb : ∀ j, 0 ≤ cellB r q j ∧ cellB r q j ≤ 1000) :
    Calls Try.prog 127 #[v, .int .i64 1] w fun e w' => e = .returned (.int .i64 (one1 r q)) ∧ Below w.heap.size w w' := by
  obtain ⟨bl, off, cap, rfl, hbl, c0, c1, c2, c3⟩ := row_cells h hl
  have b1 := hcb 1
  have b2 := hcb 3
  have hv : Hid (one1 r q = cellB r q 1 + cellB r q 3) := Lib.hid rfl
  replace hcb := Lib.hid hcb
  replace hl := Lib.hid hl
  rw [hv.out]
  go_enter Try.func127, Try.ntmps127
  go_wp2_with fail
  refine wp_region_rk (by kernel_rfl) [none, none, none, none, some 7, none, none, none, none, none, none, none, none, none, some 0, some 1, some 2, some 3, some 4, some 5, some 6] 7 (by kernel_rfl) (by kernel_rfl) (by kernel_rfl) _ rfl w.heap.size [rkV (.slice (some ⟨bl, off, none⟩) 4 cap), rkV (.pointer (some ⟨bl, off + 1, none⟩)), rkV (.int .i64 (cellB r q 1)), rkV (.slice (some ⟨bl, off, none⟩) 4 cap), rkV (.pointer (some ⟨bl, off + 3, none⟩)), rkV (.int .i64 (cellB r q 3)), rkV (.int .i64 (cellB r q 1 + cellB r q 3))] _ rfl (by kernel_rfl) (by simp) ?_ ?_
  · intro i o ho hi u g ww hbw hd
    have hall : Below w.heap.size w ww := hbw
    have hlow : w.heap.size ≤ ww.heap.size := hall.size
    obtain ⟨hcl, hfr⟩ := bcell hbw
    have y_c1 := (hcl _ _ (by omega)).trans c1
    have y_c3 := (hcl _ _ (by omega)).trans c3
    clear hcl hfr
    rcases i with _ | _ | _ | _ | _ | _ | _ | _ | i
    all_goals try obtain rfl := Option.some.inj ho
    all_goals try simp only [putAll, fillL]
    · go_wp2
      exact ⟨_, rfl, kept0 (Below.refl _ _), rfl⟩
    · have e0 : u 0 = .slice (some ⟨bl, off, none⟩) 4 cap := hd 0 (by decide)
      rw [e0]
      go_wp2
      exact ⟨_, by simp only [putAll, fillL, e0] <;> rfl, kept0 (Below.refl _ _), rfl⟩
    · have e1 : u 1 = .pointer (some ⟨bl, off + 1, none⟩) := hd 1 (by decide)
      rw [e1]
      go_wp2
      exact ⟨_, by simp only [putAll, fillL, e1] <;> rfl, kept0 (Below.refl _ _), rfl⟩
    · go_wp2
      exact ⟨_, rfl, kept0 (Below.refl _ _), rfl⟩
    · have e3 : u 3 = .slice (some ⟨bl, off, none⟩) 4 cap := hd 3 (by decide)
      rw [e3]
      go_wp2
      exact ⟨_, by simp only [putAll, fillL, e3] <;> rfl, kept0 (Below.refl _ _), rfl⟩
    · have e4 : u 4 = .pointer (some ⟨bl, off + 3, none⟩) := hd 4 (by decide)
      rw [e4]
      go_wp2
      exact ⟨_, by simp only [putAll, fillL, e4] <;> rfl, kept0 (Below.refl _ _), rfl⟩
    · have e2 : u 2 = .int .i64 (cellB r q 1) := hd 2 (by decide)
      rw [e2]
      have e5 : u 5 = .int .i64 (cellB r q 3) := hd 5 (by decide)
      rw [e5]
      go_wp2
      exact ⟨_, by simp only [putAll, fillL, e2, e5] <;> rfl, kept0 (Below.refl _ _), rfl⟩
    · exact absurd rfl hi
    · simp at ho
  · intro u g w5 hbw hR hAp
    have e6 : u 6 = .int .i64 (cellB r q 1 + cellB r q 3) := hR 6 (by decide) (by decide)
    clear hR hAp c0 c1 c2 c3
    simp only [putAll, fillL]
    rw [e6]
    go_wp2
    go_ret
    exact ⟨rfl, hbw⟩

def quiet2 (r : BoxD) : Bool := ((one0 r 1 == one0 r 0) && (one0 r 3 == one0 r 2)) && ((one1 r 2 == one1 r 0) && (one1 r 3 == one1 r 1))


set_option maxRecDepth 100000 in
set_option maxHeartbeats 8000000 in
theorem c_l2Loud (v : Value) (r : BoxD) (w : World) (h : BoxR w v r) (hp : pairB r = true) :
    Calls Try.prog 119 #[v] w fun e w' => ∃ p q : Int, e = .returned (.tuple #[.int .i64 p, .int .i64 q]) ∧ decide (p < 0) = quiet2 r ∧ Below w.heap.size w w' := by
  obtain ⟨v4, rfl, hr⟩ := id h
  obtain ⟨a4, k4, rfl, l4⟩ := hr.out
  have hA := (Below.refl w.heap.size w).alloc (Nat.le_refl _) (.cells #[.int .i64 r.x, .int .i64 r.y, .int .i64 r.w, .slice a4 r.r.length k4] 50)
  have pB : (w.alloc (.cells #[.int .i64 r.x, .int .i64 r.y, .int .i64 r.w, .slice a4 r.r.length k4] 50)).heap[w.heap.size]? = some (.cells #[.int .i64 r.x, .int .i64 r.y, .int .i64 r.w, .slice a4 r.r.length k4] 50 (0, 0)) := heap_alloc_at rfl
  obtain ⟨hbb, hxx, hyy, hlen⟩ := pairB_facts hp
  have hl4 := fun q (hq : q < 4) => (boxB_row hbb (show q < r.r.length by omega)).1
  have hcb := fun q (hq : q < 4) => boxB_cell hbb (show q < r.r.length by omega)
  have hyy2 : r.y = 2 := hyy
  obtain ⟨v0, iw0, hk0⟩ := at_l2Row _ r 0 0 2 w h hyy (by decide) (by rw [hlen]; decide)
  rw [show 0 * 2 + 0 = 0 from rfl] at iw0
  obtain ⟨bl0, off0, cap0, rfl, -, -, -, -, -⟩ := row_cells iw0 (hl4 0 (by decide))
  obtain ⟨v1, iw1, hk1⟩ := at_l2Row _ r 0 1 2 w h hyy (by decide) (by rw [hlen]; decide)
  rw [show 0 * 2 + 1 = 1 from rfl] at iw1
  obtain ⟨bl1, off1, cap1, rfl, -, -, -, -, -⟩ := row_cells iw1 (hl4 1 (by decide))
  obtain ⟨v2, iw2, hk2⟩ := at_l2Row _ r 1 0 2 w h hyy (by decide) (by rw [hlen]; decide)
  rw [show 1 * 2 + 0 = 2 from rfl] at iw2
  obtain ⟨bl2, off2, cap2, rfl, -, -, -, -, -⟩ := row_cells iw2 (hl4 2 (by decide))
  obtain ⟨v3, iw3, hk3⟩ := at_l2Row _ r 1 1 2 w h hyy (by decide) (by rw [hlen]; decide)
  rw [show 1 * 2 + 1 = 3 from rfl] at iw3
  obtain ⟨bl3, off3, cap3, rfl, -, -, -, -, -⟩ := row_cells iw3 (hl4 3 (by decide))
  rw [hxx, hyy2] at pB hA hk0 hk1 hk2 hk3 h ⊢
  replace hl4 := Lib.hid hl4
  replace hcb := Lib.hid hcb
  replace hbb := Lib.hid hbb
  replace hlen := Lib.hid hlen
  replace hxx := Lib.hid hxx
  replace hyy := Lib.hid hyy
  replace hyy2 := Lib.hid hyy2
  replace hp := Lib.hid hp
  have iv0 := Lib.hid iw0
  clear iw0
  have iv1 := Lib.hid iw1
  clear iw1
  have iv2 := Lib.hid iw2
  clear iw2
  have iv3 := Lib.hid iw3
  clear iw3
  replace hk0 := Lib.hid hk0
  replace hk1 := Lib.hid hk1
  replace hk2 := Lib.hid hk2
  replace hk3 := Lib.hid hk3
  have hBs : Below (w.heap.size + 1) (w.alloc (.cells #[.int .i64 2, .int .i64 2, .int .i64 r.w, .slice a4 r.r.length k4] 50)) (w.alloc (.cells #[.int .i64 2, .int .i64 2, .int .i64 r.w, .slice a4 r.r.length k4] 50)) := Below.refl _ _
  go_enter Try.func119, Try.ntmps119
  obtain ⟨⟨z0, z1, z2, z3⟩, -⟩ := blk4 pB
  go_wp2_with fail
  clear z0 z1 z2 z3
  go_loopw [4] (fun i wr => ∃ x : Nat, x ≤ 2 ∧ i = .int .i64 x ∧ Hid ((1 ≤ x → one0 r 1 = one0 r 0) ∧ (2 ≤ x → one0 r 3 = one0 r 2)) ∧ Below (w.heap.size + 1) (w.alloc (.cells #[.int .i64 2, .int .i64 2, .int .i64 r.w, .slice a4 r.r.length k4] 50)) wr) (fun i _ => 2 - (intOf i).toNat)
  case atStart => exact ⟨0, Nat.zero_le _, rfl, Lib.hid ⟨fun h => absurd h (by decide), fun h => absurd h (by decide)⟩, hBs⟩
  case round =>
    clear hBs
    obtain ⟨x, hx2, rfl, HA, hB⟩ := hrel
    have hx3 : x = 0 ∨ x = 1 ∨ x = 2 := by omega
    obtain ⟨⟨z0, z1, z2, z3⟩, -⟩ := blk4 ((hB.block _ (by omega)).trans pB)
    rcases hx3 with rfl | rfl | rfl
    · go_wp2_with fail
      clear z0 z1 z2 z3
      go_loopw [5] (fun i wr => ∃ y : Nat, 1 ≤ y ∧ y ≤ 2 ∧ i = .int .i64 y ∧ Hid (2 ≤ y → one0 r 1 = one0 r 0) ∧ Below (w.heap.size + 1) (w.alloc (.cells #[.int .i64 2, .int .i64 2, .int .i64 r.w, .slice a4 r.r.length k4] 50)) wr) (fun i _ => 2 - (intOf i).toNat)
      case atStart => exact ⟨1, by decide, by decide, rfl, Lib.hid fun h => absurd h (by decide), hB⟩
      case round =>
        clear hB
        obtain ⟨y, hy1, hy2, rfl, HY, hB⟩ := hrel
        have hy3 : y = 1 ∨ y = 2 := by omega
        rcases hy3 with rfl | rfl
        · skip
          obtain ⟨⟨z0, z1, z2, z3⟩, -⟩ := blk4 ((hB.block _ (by omega)).trans pB)
          have hall0 := hA.trans (hB.mono (by omega))
          have hszr := hB.size
          simp only [World.size_alloc] at hszr
          go_wp2_with fail
          refine wp_region_rk (by kernel_rfl) [none, none, none, none, none, none, none, none, none, none, none, none, none, none, none, none, none, none, none, none, some 0, some 1, some 2, some 3, some 4, some 5, some 6, some 7, some 8, some 9] 9 (by kernel_rfl) (by kernel_rfl) (by kernel_rfl) _ rfl w.heap.size [rkV (.agg #[.int .i64 2, .int .i64 2, .int .i64 r.w, .slice a4 r.r.length k4]), rkV (.int .i64 0), rkV (.int .i64 1), rkV (.slice (some ⟨bl1, off1, none⟩) 4 cap1), rkV (.int .i64 (one0 r 1)), rkV (.agg #[.int .i64 2, .int .i64 2, .int .i64 r.w, .slice a4 r.r.length k4]), rkV (.int .i64 0), rkV (.slice (some ⟨bl0, off0, none⟩) 4 cap0), rkV (.int .i64 (one0 r 0))] _ rfl (by kernel_rfl) (by simp) ?_ ?_
          · intro i o ho hi u g ww hbw hd
            have hall : Below w.heap.size w ww := hall0.trans (hbw.mono (by omega))
            have hlow : w.heap.size ≤ ww.heap.size := hall.size
            obtain ⟨hcl, hfr⟩ := bcell hbw
            have y_z0 := (hcl _ _ (by omega)).trans z0
            have y_z1 := (hcl _ _ (by omega)).trans z1
            have y_z2 := (hcl _ _ (by omega)).trans z2
            have y_z3 := (hcl _ _ (by omega)).trans z3
            clear hcl hfr
            rcases i with _ | _ | _ | _ | _ | _ | _ | _ | _ | _ | i
            all_goals try obtain rfl := Option.some.inj ho
            all_goals try simp only [putAll, fillL]
            · go_wp2
              exact ⟨_, rfl, kept0 (Below.refl _ _), rfl⟩
            · go_wp2
              exact ⟨_, rfl, kept0 (Below.refl _ _), rfl⟩
            · go_wp2
              exact ⟨_, rfl, kept0 (Below.refl _ _), rfl⟩
            · have e0 : u 0 = .agg #[.int .i64 2, .int .i64 2, .int .i64 r.w, .slice a4 r.r.length k4] := hd 0 (by decide)
              rw [e0]
              have e1 : u 1 = .int .i64 0 := hd 1 (by decide)
              rw [e1]
              have e2 : u 2 = .int .i64 1 := hd 2 (by decide)
              rw [e2]
              go_wp2_with fail
              refine (hk1.out _ hall).mono ?_
              rintro e wn ⟨rfl, hbn⟩
              go_wp2
              exact ⟨_, by simp only [putAll, fillL, e0, e1, e2] <;> rfl, kept0 hbn, rfl⟩
            · have e3 : u 3 = .slice (some ⟨bl1, off1, none⟩) 4 cap1 := hd 3 (by decide)
              rw [e3]
              go_wp2_with fail
              refine (c_l2One0 _ r 1 _ (iv1.out.below hall) (hl4.out 1 (by decide)) (hcb.out 1 (by decide))).mono ?_
              rintro e wn ⟨rfl, hbn⟩
              go_wp2
              exact ⟨_, by simp only [putAll, fillL, e3] <;> rfl, kept0 hbn, rfl⟩
            · go_wp2
              exact ⟨_, rfl, kept0 (Below.refl _ _), rfl⟩
            · go_wp2
              exact ⟨_, rfl, kept0 (Below.refl _ _), rfl⟩
            · have e5 : u 5 = .agg #[.int .i64 2, .int .i64 2, .int .i64 r.w, .slice a4 r.r.length k4] := hd 5 (by decide)
              rw [e5]
              have e6 : u 6 = .int .i64 0 := hd 6 (by decide)
              rw [e6]
              go_wp2_with fail
              refine (hk0.out _ hall).mono ?_
              rintro e wn ⟨rfl, hbn⟩
              go_wp2
              exact ⟨_, by simp only [putAll, fillL, e5, e6] <;> rfl, kept0 hbn, rfl⟩
            · have e7 : u 7 = .slice (some ⟨bl0, off0, none⟩) 4 cap0 := hd 7 (by decide)
              rw [e7]
              go_wp2_with fail
              refine (c_l2One0 _ r 0 _ (iv0.out.below hall) (hl4.out 0 (by decide)) (hcb.out 0 (by decide))).mono ?_
              rintro e wn ⟨rfl, hbn⟩
              go_wp2
              exact ⟨_, by simp only [putAll, fillL, e7] <;> rfl, kept0 hbn, rfl⟩
            · exact absurd rfl hi
            · simp at ho
          · intro u g w5 hbw hR hAp
            have u4 : u 4 = .int .i64 (one0 r 1) := hR 4 (by decide) (by decide)
            have u8 : u 8 = .int .i64 (one0 r 0) := hR 8 (by decide) (by decide)
            have hB5 := hB.trans (hbw.mono (by omega))
            have hall5 := hall0.trans (hbw.mono (by omega))
            clear hR hAp z0 z1 z2 z3 hbw hB hall0
            simp only [putAll, fillL]
            rw [u4, u8]
            clear u4 u8
            cases hx : (one0 r 1 != one0 r 0)
            · have hE : Hid (2 ≤ 2 → one0 r 1 = one0 r 0) := Lib.hid fun _ => by simpa using hx
              go_wp2
              go_roundw
              case rel => first | exact ⟨2, by decide, by decide, by go_num, hE, hB5⟩ | ((repeat apply Exists.intro); exact ⟨⟨2, by decide, by decide, rfl, hE, hB5⟩, rfl⟩)
              case measure => simp [intOf]
            · have hQ : Hid (quiet2 r = false) := Lib.hid (by unfold quiet2; rw [show (one0 r 1 == one0 r 0) = false by simpa using hx]; simp)
              go_wp2
              refine bodyPost_ret (v := .tuple #[.int .i64 0, .int .i64 0]) (by simp [results, Try.results119, go_sem]) rfl ⟨0, 0, rfl, by rw [hQ.out]; rfl, hall5⟩
        · obtain ⟨⟨z0, z1, z2, z3⟩, -⟩ := blk4 ((hB.block _ (by omega)).trans pB)
          have hE := HY.out (by decide)
          have hN : Hid ((1 ≤ 1 → one0 r 1 = one0 r 0) ∧ (2 ≤ 1 → one0 r 3 = one0 r 2)) := Lib.hid ⟨fun _ => hE, fun h => absurd h (by decide)⟩
          clear hE
          go_wp2
          go_roundw
          case rel => first | exact ⟨1, by decide, by go_num, hN, hB⟩ | ((repeat apply Exists.intro); exact ⟨⟨1, by decide, rfl, hN, hB⟩, rfl⟩)
          case measure => simp [intOf]
    · go_wp2_with fail
      clear z0 z1 z2 z3
      go_loopw [5] (fun i wr => ∃ y : Nat, 1 ≤ y ∧ y ≤ 2 ∧ i = .int .i64 y ∧ Hid (2 ≤ y → one0 r 3 = one0 r 2) ∧ Below (w.heap.size + 1) (w.alloc (.cells #[.int .i64 2, .int .i64 2, .int .i64 r.w, .slice a4 r.r.length k4] 50)) wr) (fun i _ => 2 - (intOf i).toNat)
      case atStart => exact ⟨1, by decide, by decide, rfl, Lib.hid fun h => absurd h (by decide), hB⟩
      case round =>
        clear hB
        obtain ⟨y, hy1, hy2, rfl, HY, hB⟩ := hrel
        have hy3 : y = 1 ∨ y = 2 := by omega
        rcases hy3 with rfl | rfl
        · skip
          obtain ⟨⟨z0, z1, z2, z3⟩, -⟩ := blk4 ((hB.block _ (by omega)).trans pB)
          have hall0 := hA.trans (hB.mono (by omega))
          have hszr := hB.size
          simp only [World.size_alloc] at hszr
          go_wp2_with fail
          refine wp_region_rk (by kernel_rfl) [none, none, none, none, none, none, none, none, none, none, none, none, none, none, none, none, none, none, none, none, some 0, some 1, some 2, some 3, some 4, some 5, some 6, some 7, some 8, some 9] 9 (by kernel_rfl) (by kernel_rfl) (by kernel_rfl) _ rfl w.heap.size [rkV (.agg #[.int .i64 2, .int .i64 2, .int .i64 r.w, .slice a4 r.r.length k4]), rkV (.int .i64 1), rkV (.int .i64 1), rkV (.slice (some ⟨bl3, off3, none⟩) 4 cap3), rkV (.int .i64 (one0 r 3)), rkV (.agg #[.int .i64 2, .int .i64 2, .int .i64 r.w, .slice a4 r.r.length k4]), rkV (.int .i64 1), rkV (.slice (some ⟨bl2, off2, none⟩) 4 cap2), rkV (.int .i64 (one0 r 2))] _ rfl (by kernel_rfl) (by simp) ?_ ?_
          · intro i o ho hi u g ww hbw hd
            have hall : Below w.heap.size w ww := hall0.trans (hbw.mono (by omega))
            have hlow : w.heap.size ≤ ww.heap.size := hall.size
            obtain ⟨hcl, hfr⟩ := bcell hbw
            have y_z0 := (hcl _ _ (by omega)).trans z0
            have y_z1 := (hcl _ _ (by omega)).trans z1
            have y_z2 := (hcl _ _ (by omega)).trans z2
            have y_z3 := (hcl _ _ (by omega)).trans z3
            clear hcl hfr
            rcases i with _ | _ | _ | _ | _ | _ | _ | _ | _ | _ | i
            all_goals try obtain rfl := Option.some.inj ho
            all_goals try simp only [putAll, fillL]
            · go_wp2
              exact ⟨_, rfl, kept0 (Below.refl _ _), rfl⟩
            · go_wp2
              exact ⟨_, rfl, kept0 (Below.refl _ _), rfl⟩
            · go_wp2
              exact ⟨_, rfl, kept0 (Below.refl _ _), rfl⟩
            · have e0 : u 0 = .agg #[.int .i64 2, .int .i64 2, .int .i64 r.w, .slice a4 r.r.length k4] := hd 0 (by decide)
              rw [e0]
              have e1 : u 1 = .int .i64 1 := hd 1 (by decide)
              rw [e1]
              have e2 : u 2 = .int .i64 1 := hd 2 (by decide)
              rw [e2]
              go_wp2_with fail
              refine (hk3.out _ hall).mono ?_
              rintro e wn ⟨rfl, hbn⟩
              go_wp2
              exact ⟨_, by simp only [putAll, fillL, e0, e1, e2] <;> rfl, kept0 hbn, rfl⟩
            · have e3 : u 3 = .slice (some ⟨bl3, off3, none⟩) 4 cap3 := hd 3 (by decide)
              rw [e3]
              go_wp2_with fail
              refine (c_l2One0 _ r 3 _ (iv3.out.below hall) (hl4.out 3 (by decide)) (hcb.out 3 (by decide))).mono ?_
              rintro e wn ⟨rfl, hbn⟩
              go_wp2
              exact ⟨_, by simp only [putAll, fillL, e3] <;> rfl, kept0 hbn, rfl⟩
            · go_wp2
              exact ⟨_, rfl, kept0 (Below.refl _ _), rfl⟩
            · go_wp2
              exact ⟨_, rfl, kept0 (Below.refl _ _), rfl⟩
            · have e5 : u 5 = .agg #[.int .i64 2, .int .i64 2, .int .i64 r.w, .slice a4 r.r.length k4] := hd 5 (by decide)
              rw [e5]
              have e6 : u 6 = .int .i64 1 := hd 6 (by decide)
              rw [e6]
              go_wp2_with fail
              refine (hk2.out _ hall).mono ?_
              rintro e wn ⟨rfl, hbn⟩
              go_wp2
              exact ⟨_, by simp only [putAll, fillL, e5, e6] <;> rfl, kept0 hbn, rfl⟩
            · have e7 : u 7 = .slice (some ⟨bl2, off2, none⟩) 4 cap2 := hd 7 (by decide)
              rw [e7]
              go_wp2_with fail
              refine (c_l2One0 _ r 2 _ (iv2.out.below hall) (hl4.out 2 (by decide)) (hcb.out 2 (by decide))).mono ?_
              rintro e wn ⟨rfl, hbn⟩
              go_wp2
              exact ⟨_, by simp only [putAll, fillL, e7] <;> rfl, kept0 hbn, rfl⟩
            · exact absurd rfl hi
            · simp at ho
          · intro u g w5 hbw hR hAp
            have u4 : u 4 = .int .i64 (one0 r 3) := hR 4 (by decide) (by decide)
            have u8 : u 8 = .int .i64 (one0 r 2) := hR 8 (by decide) (by decide)
            have hB5 := hB.trans (hbw.mono (by omega))
            have hall5 := hall0.trans (hbw.mono (by omega))
            clear hR hAp z0 z1 z2 z3 hbw hB hall0
            simp only [putAll, fillL]
            rw [u4, u8]
            clear u4 u8
            cases hx : (one0 r 3 != one0 r 2)
            · have hE : Hid (2 ≤ 2 → one0 r 3 = one0 r 2) := Lib.hid fun _ => by simpa using hx
              go_wp2
              go_roundw
              case rel => first | exact ⟨2, by decide, by decide, by go_num, hE, hB5⟩ | ((repeat apply Exists.intro); exact ⟨⟨2, by decide, by decide, rfl, hE, hB5⟩, rfl⟩)
              case measure => simp [intOf]
            · have hQ : Hid (quiet2 r = false) := Lib.hid (by unfold quiet2; rw [show (one0 r 3 == one0 r 2) = false by simpa using hx]; simp)
              go_wp2
              refine bodyPost_ret (v := .tuple #[.int .i64 0, .int .i64 1]) (by simp [results, Try.results119, go_sem]) rfl ⟨0, 1, rfl, by rw [hQ.out]; rfl, hall5⟩
        · obtain ⟨⟨z0, z1, z2, z3⟩, -⟩ := blk4 ((hB.block _ (by omega)).trans pB)
          have hE := HY.out (by decide)
          have hN : Hid ((1 ≤ 2 → one0 r 1 = one0 r 0) ∧ (2 ≤ 2 → one0 r 3 = one0 r 2)) := Lib.hid ⟨fun _ => HA.out.1 (by decide), fun _ => hE⟩
          clear hE
          go_wp2
          go_roundw
          case rel => first | exact ⟨2, by decide, by go_num, hN, hB⟩ | ((repeat apply Exists.intro); exact ⟨⟨2, by decide, rfl, hN, hB⟩, rfl⟩)
          case measure => simp [intOf]
    · go_wp2_with fail
      clear z0 z1 z2 z3
      go_loopw [6] (fun i wr => ∃ x : Nat, x ≤ 2 ∧ i = .int .i64 x ∧ Hid ((1 ≤ x → one1 r 2 = one1 r 0) ∧ (2 ≤ x → one1 r 3 = one1 r 1)) ∧ Below (w.heap.size + 1) (w.alloc (.cells #[.int .i64 2, .int .i64 2, .int .i64 r.w, .slice a4 r.r.length k4] 50)) wr) (fun i _ => 2 - (intOf i).toNat)
      case atStart => exact ⟨0, Nat.zero_le _, rfl, Lib.hid ⟨fun h => absurd h (by decide), fun h => absurd h (by decide)⟩, hB⟩
      case round =>
        clear hB
        obtain ⟨x, hx2, rfl, HB, hB⟩ := hrel
        have hx3 : x = 0 ∨ x = 1 ∨ x = 2 := by omega
        obtain ⟨⟨z0, z1, z2, z3⟩, -⟩ := blk4 ((hB.block _ (by omega)).trans pB)
        rcases hx3 with rfl | rfl | rfl
        · go_wp2_with fail
          clear z0 z1 z2 z3
          go_loopw [7] (fun i wr => ∃ y : Nat, 1 ≤ y ∧ y ≤ 2 ∧ i = .int .i64 y ∧ Hid (2 ≤ y → one1 r 2 = one1 r 0) ∧ Below (w.heap.size + 1) (w.alloc (.cells #[.int .i64 2, .int .i64 2, .int .i64 r.w, .slice a4 r.r.length k4] 50)) wr) (fun i _ => 2 - (intOf i).toNat)
          case atStart => exact ⟨1, by decide, by decide, rfl, Lib.hid fun h => absurd h (by decide), hB⟩
          case round =>
            clear hB
            obtain ⟨y, hy1, hy2, rfl, HY, hB⟩ := hrel
            have hy3 : y = 1 ∨ y = 2 := by omega
            rcases hy3 with rfl | rfl
            · skip
              obtain ⟨⟨z0, z1, z2, z3⟩, -⟩ := blk4 ((hB.block _ (by omega)).trans pB)
              have hall0 := hA.trans (hB.mono (by omega))
              have hszr := hB.size
              simp only [World.size_alloc] at hszr
              go_wp2_with fail
              refine wp_region_rk (by kernel_rfl) [none, none, none, none, none, none, none, none, none, none, none, none, none, none, none, none, none, none, none, none, none, none, none, none, none, none, none, none, none, none, none, none, none, none, none, none, none, none, none, none, none, none, none, some 0, some 1, some 2, some 3, some 4, some 5, some 6, some 7, some 8, some 9] 9 (by kernel_rfl) (by kernel_rfl) (by kernel_rfl) _ rfl w.heap.size [rkV (.agg #[.int .i64 2, .int .i64 2, .int .i64 r.w, .slice a4 r.r.length k4]), rkV (.int .i64 1), rkV (.int .i64 0), rkV (.slice (some ⟨bl2, off2, none⟩) 4 cap2), rkV (.int .i64 (one1 r 2)), rkV (.agg #[.int .i64 2, .int .i64 2, .int .i64 r.w, .slice a4 r.r.length k4]), rkV (.int .i64 0), rkV (.slice (some ⟨bl0, off0, none⟩) 4 cap0), rkV (.int .i64 (one1 r 0))] _ rfl (by kernel_rfl) (by simp) ?_ ?_
              · intro i o ho hi u g ww hbw hd
                have hall : Below w.heap.size w ww := hall0.trans (hbw.mono (by omega))
                have hlow : w.heap.size ≤ ww.heap.size := hall.size
                obtain ⟨hcl, hfr⟩ := bcell hbw
                have y_z0 := (hcl _ _ (by omega)).trans z0
                have y_z1 := (hcl _ _ (by omega)).trans z1
                have y_z2 := (hcl _ _ (by omega)).trans z2
                have y_z3 := (hcl _ _ (by omega)).trans z3
                clear hcl hfr
                rcases i with _ | _ | _ | _ | _ | _ | _ | _ | _ | _ | i
                all_goals try obtain rfl := Option.some.inj ho
                all_goals try simp only [putAll, fillL]
                · go_wp2
                  exact ⟨_, rfl, kept0 (Below.refl _ _), rfl⟩
                · go_wp2
                  exact ⟨_, rfl, kept0 (Below.refl _ _), rfl⟩
                · go_wp2
                  exact ⟨_, rfl, kept0 (Below.refl _ _), rfl⟩
                · have e0 : u 0 = .agg #[.int .i64 2, .int .i64 2, .int .i64 r.w, .slice a4 r.r.length k4] := hd 0 (by decide)
                  rw [e0]
                  have e1 : u 1 = .int .i64 1 := hd 1 (by decide)
                  rw [e1]
                  have e2 : u 2 = .int .i64 0 := hd 2 (by decide)
                  rw [e2]
                  go_wp2_with fail
                  refine (hk2.out _ hall).mono ?_
                  rintro e wn ⟨rfl, hbn⟩
                  go_wp2
                  exact ⟨_, by simp only [putAll, fillL, e0, e1, e2] <;> rfl, kept0 hbn, rfl⟩
                · have e3 : u 3 = .slice (some ⟨bl2, off2, none⟩) 4 cap2 := hd 3 (by decide)
                  rw [e3]
                  go_wp2_with fail
                  refine (c_l2One1 _ r 2 _ (iv2.out.below hall) (hl4.out 2 (by decide)) (hcb.out 2 (by decide))).mono ?_
                  rintro e wn ⟨rfl, hbn⟩
                  go_wp2
                  exact ⟨_, by simp only [putAll, fillL, e3] <;> rfl, kept0 hbn, rfl⟩
                · go_wp2
                  exact ⟨_, rfl, kept0 (Below.refl _ _), rfl⟩
                · go_wp2
                  exact ⟨_, rfl, kept0 (Below.refl _ _), rfl⟩
                · have e5 : u 5 = .agg #[.int .i64 2, .int .i64 2, .int .i64 r.w, .slice a4 r.r.length k4] := hd 5 (by decide)
                  rw [e5]
                  have e6 : u 6 = .int .i64 0 := hd 6 (by decide)
                  rw [e6]
                  go_wp2_with fail
                  refine (hk0.out _ hall).mono ?_
                  rintro e wn ⟨rfl, hbn⟩
                  go_wp2
                  exact ⟨_, by simp only [putAll, fillL, e5, e6] <;> rfl, kept0 hbn, rfl⟩
                · have e7 : u 7 = .slice (some ⟨bl0, off0, none⟩) 4 cap0 := hd 7 (by decide)
                  rw [e7]
                  go_wp2_with fail
                  refine (c_l2One1 _ r 0 _ (iv0.out.below hall) (hl4.out 0 (by decide)) (hcb.out 0 (by decide))).mono ?_
                  rintro e wn ⟨rfl, hbn⟩
                  go_wp2
                  exact ⟨_, by simp only [putAll, fillL, e7] <;> rfl, kept0 hbn, rfl⟩
                · exact absurd rfl hi
                · simp at ho
              · intro u g w5 hbw hR hAp
                have u4 : u 4 = .int .i64 (one1 r 2) := hR 4 (by decide) (by decide)
                have u8 : u 8 = .int .i64 (one1 r 0) := hR 8 (by decide) (by decide)
                have hB5 := hB.trans (hbw.mono (by omega))
                have hall5 := hall0.trans (hbw.mono (by omega))
                clear hR hAp z0 z1 z2 z3 hbw hB hall0
                simp only [putAll, fillL]
                rw [u4, u8]
                clear u4 u8
                cases hx : (one1 r 2 != one1 r 0)
                · have hE : Hid (2 ≤ 2 → one1 r 2 = one1 r 0) := Lib.hid fun _ => by simpa using hx
                  go_wp2
                  go_roundw
                  case rel => first | exact ⟨2, by decide, by decide, by go_num, hE, hB5⟩ | ((repeat apply Exists.intro); exact ⟨⟨2, by decide, by decide, rfl, hE, hB5⟩, rfl⟩)
                  case measure => simp [intOf]
                · have hQ : Hid (quiet2 r = false) := Lib.hid (by unfold quiet2; rw [show (one1 r 2 == one1 r 0) = false by simpa using hx]; simp)
                  go_wp2
                  refine bodyPost_ret (v := .tuple #[.int .i64 1, .int .i64 0]) (by simp [results, Try.results119, go_sem]) rfl ⟨1, 0, rfl, by rw [hQ.out]; rfl, hall5⟩
            · obtain ⟨⟨z0, z1, z2, z3⟩, -⟩ := blk4 ((hB.block _ (by omega)).trans pB)
              have hE := HY.out (by decide)
              have hN : Hid ((1 ≤ 1 → one1 r 2 = one1 r 0) ∧ (2 ≤ 1 → one1 r 3 = one1 r 1)) := Lib.hid ⟨fun _ => hE, fun h => absurd h (by decide)⟩
              clear hE
              go_wp2
              go_roundw
              case rel => first | exact ⟨1, by decide, by go_num, hN, hB⟩ | ((repeat apply Exists.intro); exact ⟨⟨1, by decide, rfl, hN, hB⟩, rfl⟩)
              case measure => simp [intOf]
        · go_wp2_with fail
          clear z0 z1 z2 z3
          go_loopw [7] (fun i wr => ∃ y : Nat, 1 ≤ y ∧ y ≤ 2 ∧ i = .int .i64 y ∧ Hid (2 ≤ y → one1 r 3 = one1 r 1) ∧ Below (w.heap.size + 1) (w.alloc (.cells #[.int .i64 2, .int .i64 2, .int .i64 r.w, .slice a4 r.r.length k4] 50)) wr) (fun i _ => 2 - (intOf i).toNat)
          case atStart => exact ⟨1, by decide, by decide, rfl, Lib.hid fun h => absurd h (by decide), hB⟩
          case round =>
            clear hB
            obtain ⟨y, hy1, hy2, rfl, HY, hB⟩ := hrel
            have hy3 : y = 1 ∨ y = 2 := by omega
            rcases hy3 with rfl | rfl
            · skip
              obtain ⟨⟨z0, z1, z2, z3⟩, -⟩ := blk4 ((hB.block _ (by omega)).trans pB)
              have hall0 := hA.trans (hB.mono (by omega))
              have hszr := hB.size
              simp only [World.size_alloc] at hszr
              go_wp2_with fail
              refine wp_region_rk (by kernel_rfl) [none, none, none, none, none, none, none, none, none, none, none, none, none, none, none, none, none, none, none, none, none, none, none, none, none, none, none, none, none, none, none, none, none, none, none, none, none, none, none, none, none, none, none, some 0, some 1, some 2, some 3, some 4, some 5, some 6, some 7, some 8, some 9] 9 (by kernel_rfl) (by kernel_rfl) (by kernel_rfl) _ rfl w.heap.size [rkV (.agg #[.int .i64 2, .int .i64 2, .int .i64 r.w, .slice a4 r.r.length k4]), rkV (.int .i64 1), rkV (.int .i64 1), rkV (.slice (some ⟨bl3, off3, none⟩) 4 cap3), rkV (.int .i64 (one1 r 3)), rkV (.agg #[.int .i64 2, .int .i64 2, .int .i64 r.w, .slice a4 r.r.length k4]), rkV (.int .i64 1), rkV (.slice (some ⟨bl1, off1, none⟩) 4 cap1), rkV (.int .i64 (one1 r 1))] _ rfl (by kernel_rfl) (by simp) ?_ ?_
              · intro i o ho hi u g ww hbw hd
                have hall : Below w.heap.size w ww := hall0.trans (hbw.mono (by omega))
                have hlow : w.heap.size ≤ ww.heap.size := hall.size
                obtain ⟨hcl, hfr⟩ := bcell hbw
                have y_z0 := (hcl _ _ (by omega)).trans z0
                have y_z1 := (hcl _ _ (by omega)).trans z1
                have y_z2 := (hcl _ _ (by omega)).trans z2
                have y_z3 := (hcl _ _ (by omega)).trans z3
                clear hcl hfr
                rcases i with _ | _ | _ | _ | _ | _ | _ | _ | _ | _ | i
                all_goals try obtain rfl := Option.some.inj ho
                all_goals try simp only [putAll, fillL]
                · go_wp2
                  exact ⟨_, rfl, kept0 (Below.refl _ _), rfl⟩
                · go_wp2
                  exact ⟨_, rfl, kept0 (Below.refl _ _), rfl⟩
                · go_wp2
                  exact ⟨_, rfl, kept0 (Below.refl _ _), rfl⟩
                · have e0 : u 0 = .agg #[.int .i64 2, .int .i64 2, .int .i64 r.w, .slice a4 r.r.length k4] := hd 0 (by decide)
                  rw [e0]
                  have e1 : u 1 = .int .i64 1 := hd 1 (by decide)
                  rw [e1]
                  have e2 : u 2 = .int .i64 1 := hd 2 (by decide)
                  rw [e2]
                  go_wp2_with fail
                  refine (hk3.out _ hall).mono ?_
                  rintro e wn ⟨rfl, hbn⟩
                  go_wp2
                  exact ⟨_, by simp only [putAll, fillL, e0, e1, e2] <;> rfl, kept0 hbn, rfl⟩
                · have e3 : u 3 = .slice (some ⟨bl3, off3, none⟩) 4 cap3 := hd 3 (by decide)
                  rw [e3]
                  go_wp2_with fail
                  refine (c_l2One1 _ r 3 _ (iv3.out.below hall) (hl4.out 3 (by decide)) (hcb.out 3 (by decide))).mono ?_
                  rintro e wn ⟨rfl, hbn⟩
                  go_wp2
                  exact ⟨_, by simp only [putAll, fillL, e3] <;> rfl, kept0 hbn, rfl⟩
                · go_wp2
                  exact ⟨_, rfl, kept0 (Below.refl _ _), rfl⟩
                · go_wp2
                  exact ⟨_, rfl, kept0 (Below.refl _ _), rfl⟩
                · have e5 : u 5 = .agg #[.int .i64 2, .int .i64 2, .int .i64 r.w, .slice a4 r.r.length k4] := hd 5 (by decide)
                  rw [e5]
                  have e6 : u 6 = .int .i64 1 := hd 6 (by decide)
                  rw [e6]
                  go_wp2_with fail
                  refine (hk1.out _ hall).mono ?_
                  rintro e wn ⟨rfl, hbn⟩
                  go_wp2
                  exact ⟨_, by simp only [putAll, fillL, e5, e6] <;> rfl, kept0 hbn, rfl⟩
                · have e7 : u 7 = .slice (some ⟨bl1, off1, none⟩) 4 cap1 := hd 7 (by decide)
                  rw [e7]
                  go_wp2_with fail
                  refine (c_l2One1 _ r 1 _ (iv1.out.below hall) (hl4.out 1 (by decide)) (hcb.out 1 (by decide))).mono ?_
                  rintro e wn ⟨rfl, hbn⟩
                  go_wp2
                  exact ⟨_, by simp only [putAll, fillL, e7] <;> rfl, kept0 hbn, rfl⟩
                · exact absurd rfl hi
                · simp at ho
              · intro u g w5 hbw hR hAp
                have u4 : u 4 = .int .i64 (one1 r 3) := hR 4 (by decide) (by decide)
                have u8 : u 8 = .int .i64 (one1 r 1) := hR 8 (by decide) (by decide)
                have hB5 := hB.trans (hbw.mono (by omega))
                have hall5 := hall0.trans (hbw.mono (by omega))
                clear hR hAp z0 z1 z2 z3 hbw hB hall0
                simp only [putAll, fillL]
                rw [u4, u8]
                clear u4 u8
                cases hx : (one1 r 3 != one1 r 1)
                · have hE : Hid (2 ≤ 2 → one1 r 3 = one1 r 1) := Lib.hid fun _ => by simpa using hx
                  go_wp2
                  go_roundw
                  case rel => first | exact ⟨2, by decide, by decide, by go_num, hE, hB5⟩ | ((repeat apply Exists.intro); exact ⟨⟨2, by decide, by decide, rfl, hE, hB5⟩, rfl⟩)
                  case measure => simp [intOf]
                · have hQ : Hid (quiet2 r = false) := Lib.hid (by unfold quiet2; rw [show (one1 r 3 == one1 r 1) = false by simpa using hx]; simp)
                  go_wp2
                  refine bodyPost_ret (v := .tuple #[.int .i64 1, .int .i64 1]) (by simp [results, Try.results119, go_sem]) rfl ⟨1, 1, rfl, by rw [hQ.out]; rfl, hall5⟩
            · obtain ⟨⟨z0, z1, z2, z3⟩, -⟩ := blk4 ((hB.block _ (by omega)).trans pB)
              have hE := HY.out (by decide)
              have hN : Hid ((1 ≤ 2 → one1 r 2 = one1 r 0) ∧ (2 ≤ 2 → one1 r 3 = one1 r 1)) := Lib.hid ⟨fun _ => HB.out.1 (by decide), fun _ => hE⟩
              clear hE
              go_wp2
              go_roundw
              case rel => first | exact ⟨2, by decide, by go_num, hN, hB⟩ | ((repeat apply Exists.intro); exact ⟨⟨2, by decide, rfl, hN, hB⟩, rfl⟩)
              case measure => simp [intOf]
        · have hQ : Hid (quiet2 r = true) := Lib.hid (by unfold quiet2; rw [HA.out.1 (by decide), HA.out.2 (by decide), HB.out.1 (by decide), HB.out.2 (by decide)]; simp)
          have hall := hA.trans (hB.mono (by omega))
          go_wp2
          refine bodyPost_ret (v := .tuple #[.int .i64 (-1), .int .i64 (-1)]) (by simp [results, Try.results119, go_sem]) rfl ⟨-1, -1, rfl, by rw [hQ.out]; rfl, hall⟩
end Go.Proofs.Ytjeaeninpmaoiaa
/- Boxes of chains on both sides; conditions: none. -/
namespace Go.Proofs.Ytjeaeninpmaoiaa
open Go.RowKit

def chainB (r : BoxD) : Bool := pairB r && (quiet2 r && decide (r.w ≤ 100))
theorem loud_quiet {r : BoxD} (h : pairB r = true) : loudB r = !quiet2 r := by
  obtain ⟨-, hx, hy, -⟩ := pairB_facts h
  have h0 : ∀ p, qN r p = 2 := fun p => by unfold qN; split <;> simp [hx, hy]
  have r2 : List.range 2 = [0, 1] := rfl
  unfold loudB loud1
  simp only [h0, r2, List.all_cons, List.all_nil, Bool.and_true]
  unfold loud2
  simp only [h0, r2, List.all_cons, List.all_nil, Bool.and_true]
  simp [loud3, onesV, hy, quiet2]


theorem c_l2Quiet (v : Value) (r : BoxD) (w : World) (h : BoxR w v r) (hp : pairB r = true) :
    Calls Try.prog 109 #[v] w fun e w' => e = .returned (.bool (quiet2 r)) ∧ Below w.heap.size w w' := by
  have h2 := h
  obtain ⟨v4, rfl, hr⟩ := id h
  obtain ⟨a4, k4, rfl, l4⟩ := hr.out
  have hA := (Below.refl w.heap.size w).alloc (Nat.le_refl _) (.cells #[.int .i64 r.x, .int .i64 r.y, .int .i64 r.w, .slice a4 r.r.length k4] 50)
  have pB : (w.alloc (.cells #[.int .i64 r.x, .int .i64 r.y, .int .i64 r.w, .slice a4 r.r.length k4] 50)).heap[w.heap.size]? = some (.cells #[.int .i64 r.x, .int .i64 r.y, .int .i64 r.w, .slice a4 r.r.length k4] 50 (0, 0)) := heap_alloc_at rfl
  replace h2 := h2.below hA
  obtain ⟨⟨z0, z1, z2, z3⟩, -⟩ := blk4 pB
  replace hp := Lib.hid hp
  go_enter Try.func109, Try.ntmps109
  go_wp2_with fail
  refine (c_l2Loud _ r _ h2 hp.out).mono ?_
  rintro e w2 ⟨p, q, rfl, hq, hB⟩
  have hq2 := Lib.hid hq.symm
  clear hq
  go_wp2
  go_ret
  exact ⟨by rw [hq2.out]; rfl, bstep hA hB⟩

set_option maxHeartbeats 2000000 in
theorem c_l9Chained (v : Value) (r : BoxD) (w : World) (h : BoxR w v r) :
    Calls Try.prog 80 #[v] w fun e w' => e = .returned (.bool (chainB r)) ∧ Below w.heap.size w w' := by
  have h2 := h
  obtain ⟨v4, rfl, hr⟩ := id h
  obtain ⟨a4, k4, rfl, l4⟩ := hr.out
  have hA := (Below.refl w.heap.size w).alloc (Nat.le_refl _) (.cells #[.int .i64 r.x, .int .i64 r.y, .int .i64 r.w, .slice a4 r.r.length k4] 50)
  have pB : (w.alloc (.cells #[.int .i64 r.x, .int .i64 r.y, .int .i64 r.w, .slice a4 r.r.length k4] 50)).heap[w.heap.size]? = some (.cells #[.int .i64 r.x, .int .i64 r.y, .int .i64 r.w, .slice a4 r.r.length k4] 50 (0, 0)) := heap_alloc_at rfl
  replace h2 := h2.below hA
  cases hp : pairB r
  · have hF : Hid (chainB r = false) := Lib.hid (by simp [chainB, hp])
    replace hp := Lib.hid hp
    go_enter Try.func80, Try.ntmps80
    go_wp2_with fail
    refine (c_l9Two _ r _ h2).mono ?_
    rintro e w2 ⟨rfl, hB⟩
    rw [hp.out]
    go_wp2
    go_ret
    exact ⟨by rw [hF.out]; rfl, bstep hA hB⟩
  · cases hq : quiet2 r
    · have hF : Hid (chainB r = false) := Lib.hid (by simp [chainB, hq])
      replace hp := Lib.hid hp
      replace hq := Lib.hid hq
      go_enter Try.func80, Try.ntmps80
      go_wp2_with fail
      refine (c_l9Two _ r _ h2).mono ?_
      rintro e w2 ⟨rfl, hB⟩
      rw [hp.out]
      obtain ⟨⟨z0, z1, z2, z3⟩, -⟩ := blk4 (blk_later hB pB)
      have h3 := h2.below hB
      go_wp2_with fail
      refine (c_l2Quiet _ r _ h3 hp.out).mono ?_
      clear z0 z1 z2 z3
      rintro e w3 ⟨rfl, hC⟩
      rw [hq.out]
      go_wp2
      go_ret
      exact ⟨by rw [hF.out]; rfl, bstep (bstep hA hB) hC⟩
    · have hF : Hid (chainB r = decide (r.w ≤ 100)) := Lib.hid (by simp [chainB, hp, hq])
      replace hp := Lib.hid hp
      replace hq := Lib.hid hq
      go_enter Try.func80, Try.ntmps80
      go_wp2_with fail
      refine (c_l9Two _ r _ h2).mono ?_
      rintro e w2 ⟨rfl, hB⟩
      rw [hp.out]
      obtain ⟨⟨z0, z1, z2, z3⟩, -⟩ := blk4 (blk_later hB pB)
      have h3 := h2.below hB
      go_wp2_with fail
      refine (c_l2Quiet _ r _ h3 hp.out).mono ?_
      clear z0 z1 z2 z3
      rintro e w3 ⟨rfl, hC⟩
      rw [hq.out]
      obtain ⟨⟨z0, z1, z2, z3⟩, -⟩ := blk4 (blk_later hC (blk_later hB pB))
      go_wp2
      go_ret
      exact ⟨by rw [hF.out]; rfl, bstep (bstep hA hB) hC⟩

set_option maxHeartbeats 2000000 in
theorem c_isQuiet (v : Value) (r : BoxD) (w : World) (h : BoxR w v r) :
    Calls Try.prog 114 #[v] w fun e w' => e = .returned (.bool (boxB r && !loudB r)) ∧ Below w.heap.size w w' := by
  have h2 := h
  obtain ⟨v4, rfl, hr⟩ := id h
  obtain ⟨a4, k4, rfl, l4⟩ := hr.out
  have hA := (Below.refl w.heap.size w).alloc (Nat.le_refl _) (.cells #[.int .i64 r.x, .int .i64 r.y, .int .i64 r.w, .slice a4 r.r.length k4] 50)
  have pB : (w.alloc (.cells #[.int .i64 r.x, .int .i64 r.y, .int .i64 r.w, .slice a4 r.r.length k4] 50)).heap[w.heap.size]? = some (.cells #[.int .i64 r.x, .int .i64 r.y, .int .i64 r.w, .slice a4 r.r.length k4] 50 (0, 0)) := heap_alloc_at rfl
  replace h2 := h2.below hA
  obtain ⟨⟨z0, z1, z2, z3⟩, -⟩ := blk4 pB
  cases hp : boxB r
  · replace hp := Lib.hid hp
    go_enter Try.func114, Try.ntmps114
    go_wp2_with fail
    refine (c_IsBox _ r _ h2).mono ?_
    rintro e w2 ⟨rfl, hB⟩
    rw [hp.out]
    go_wp2
    go_ret
    exact ⟨rfl, bstep hA hB⟩
  · replace hp := Lib.hid hp
    go_enter Try.func114, Try.ntmps114
    go_wp2_with fail
    refine (c_IsBox _ r _ h2).mono ?_
    clear z0 z1 z2 z3
    rintro e w2 ⟨rfl, hB⟩
    rw [hp.out]
    obtain ⟨⟨z0, z1, z2, z3⟩, -⟩ := blk4 (blk_later hB pB)
    have h3 := h2.below hB
    go_wp2_with fail
    refine (c_loud _ r _ h3 hp.out).mono ?_
    rintro e w3 ⟨p, q, rfl, hC⟩
    clear z0 z1 z2 z3
    have hG : Hid (∀ b : Bool, (true && b) = b) := Lib.hid fun b => by simp
    go_wp2
    go_ret
    exact ⟨by rw [hG.out]; rfl, bstep (bstep hA hB) hC⟩

set_option maxHeartbeats 2000000 in
theorem c_isQuietPair (v : Value) (r : BoxD) (w : World) (h : BoxR w v r) :
    Calls Try.prog 107 #[v] w fun e w' => e = .returned (.bool (pairB r && quiet2 r)) ∧ Below w.heap.size w w' := by
  have h2 := h
  obtain ⟨v4, rfl, hr⟩ := id h
  obtain ⟨a4, k4, rfl, l4⟩ := hr.out
  have hA := (Below.refl w.heap.size w).alloc (Nat.le_refl _) (.cells #[.int .i64 r.x, .int .i64 r.y, .int .i64 r.w, .slice a4 r.r.length k4] 50)
  have pB : (w.alloc (.cells #[.int .i64 r.x, .int .i64 r.y, .int .i64 r.w, .slice a4 r.r.length k4] 50)).heap[w.heap.size]? = some (.cells #[.int .i64 r.x, .int .i64 r.y, .int .i64 r.w, .slice a4 r.r.length k4] 50 (0, 0)) := heap_alloc_at rfl
  replace h2 := h2.below hA
  cases hq : (boxB r && !loudB r)
  · have hF : Hid ((pairB r && quiet2 r) = false) := Lib.hid (by
      cases hp : pairB r
      · rfl
      · rw [(pairB_facts hp).1, loud_quiet hp] at hq
        simpa using hq)
    replace hq := Lib.hid hq
    go_enter Try.func107, Try.ntmps107
    go_wp2_with fail
    refine (c_isQuiet _ r _ h2).mono ?_
    rintro e w2 ⟨rfl, hB⟩
    rw [hq.out]
    go_wp2
    go_ret
    exact ⟨by rw [hF.out]; rfl, bstep hA hB⟩
  · have hF : Hid ((pairB r && quiet2 r) = ((r.x == 2) && (r.y == 2))) := Lib.hid (by
      have hb : boxB r = true := by cases h : boxB r <;> simp [h] at hq ⊢
      have hl : loudB r = false := by cases h : loudB r <;> simp [h] at hq ⊢
      have hpe : pairB r = ((r.x == 2) && (r.y == 2)) := by unfold pairB; rw [hb]; simp
      cases hp : pairB r
      · rw [← hpe, hp]; rfl
      · rw [← hpe, hp]
        have := loud_quiet hp
        rw [hl] at this
        simpa using this.symm)
    replace hq := Lib.hid hq
    go_enter Try.func107, Try.ntmps107
    go_wp2_with fail
    refine (c_isQuiet _ r _ h2).mono ?_
    rintro e w2 ⟨rfl, hB⟩
    rw [hq.out]
    obtain ⟨⟨z0, z1, z2, z3⟩, -⟩ := blk4 (blk_later hB pB)
    go_wp2_with fail
    refine (c_hasTwo _ _ _).mono ?_
    rintro e _ ⟨rfl, rfl⟩
    go_wp2
    go_ret
    exact ⟨by rw [hF.out]; rfl, bstep hA hB⟩

set_option maxHeartbeats 2000000 in
theorem c_isChain (v : Value) (r : BoxD) (w : World) (h : BoxR w v r) :
    Calls Try.prog 78 #[v] w fun e w' => e = .returned (.bool (chainB r)) ∧ Below w.heap.size w w' := by
  have h2 := h
  obtain ⟨v4, rfl, hr⟩ := id h
  obtain ⟨a4, k4, rfl, l4⟩ := hr.out
  have hA := (Below.refl w.heap.size w).alloc (Nat.le_refl _) (.cells #[.int .i64 r.x, .int .i64 r.y, .int .i64 r.w, .slice a4 r.r.length k4] 50)
  have pB : (w.alloc (.cells #[.int .i64 r.x, .int .i64 r.y, .int .i64 r.w, .slice a4 r.r.length k4] 50)).heap[w.heap.size]? = some (.cells #[.int .i64 r.x, .int .i64 r.y, .int .i64 r.w, .slice a4 r.r.length k4] 50 (0, 0)) := heap_alloc_at rfl
  replace h2 := h2.below hA
  cases hq : (pairB r && quiet2 r)
  · have hF : Hid (chainB r = false) := Lib.hid (by unfold chainB; rw [← Bool.and_assoc, hq]; rfl)
    replace hq := Lib.hid hq
    go_enter Try.func78, Try.ntmps78
    go_wp2_with fail
    refine (c_isQuietPair _ r _ h2).mono ?_
    rintro e w2 ⟨rfl, hB⟩
    rw [hq.out]
    go_wp2
    go_ret
    exact ⟨by rw [hF.out]; rfl, bstep hA hB⟩
  · have hF : Hid (chainB r = decide (r.w ≤ 100)) := Lib.hid (by unfold chainB; rw [← Bool.and_assoc, hq]; rfl)
    replace hq := Lib.hid hq
    go_enter Try.func78, Try.ntmps78
    go_wp2_with fail
    refine (c_isQuietPair _ r _ h2).mono ?_
    rintro e w2 ⟨rfl, hB⟩
    rw [hq.out]
    obtain ⟨⟨z0, z1, z2, z3⟩, -⟩ := blk4 (blk_later hB pB)
    go_wp2
    go_ret
    exact ⟨by rw [hF.out]; rfl, bstep hA hB⟩
end Go.Proofs.Ytjeaeninpmaoiaa
