/- BoxCode of the program; conditions: none. -/
import Derived.Test.YtjeaeninpmaoiaaJ4
namespace Go.Proofs.Ytjeaeninpmaoiaa
open Go.RowKit

set_option maxRecDepth 100000 in
theorem ix20 (a b : Int) (w : World) : Sem.run Try.prog (Instr.index 48 (.agg #[.int .i64 a, .int .i64 b]) (.int .i64 0)) w = .ok (.int .i64 a) w := by rfl
set_option maxRecDepth 100000 in
theorem ix21 (a b : Int) (w : World) : Sem.run Try.prog (Instr.index 48 (.agg #[.int .i64 a, .int .i64 b]) (.int .i64 1)) w = .ok (.int .i64 b) w := by rfl
theorem gV_eq (r : BoxD) (n : Nat) (hn : n < 8) : gV r n = cellB r (gA n).1 (gA n).2.1 + cellB r (gA n).1 (gA n).2.2 := by
  have h : n = 0 ∨ n = 1 ∨ n = 2 ∨ n = 3 ∨ n = 4 ∨ n = 5 ∨ n = 6 ∨ n = 7 := by omega
  rcases h with rfl | rfl | rfl | rfl | rfl | rfl | rfl | rfl <;> simp [gV, gP, gHit, gA]


set_option maxRecDepth 100000 in
set_option maxHeartbeats 40000000 in
theorem c_impl_BoxCode (v : Value) (r : BoxD) (w : World) (h : BoxR w v r) :
    Calls Try.prog 36 #[v] w fun e w' => ∃ v', e = .returned (.tuple #[v', .bool (pairB r)]) ∧ OwnI w' w.heap.size v' (boxCodeL r) ∧ Below w.heap.size w w' := by
  have h2 := h
  obtain ⟨v4, rfl, hr⟩ := id h
  obtain ⟨a4, k4, rfl, l4⟩ := hr.out
  have hA := (Below.refl w.heap.size w).alloc (Nat.le_refl _) (.cells #[.int .i64 r.x, .int .i64 r.y, .int .i64 r.w, .slice a4 r.r.length k4] 50)
  have pB : (w.alloc (.cells #[.int .i64 r.x, .int .i64 r.y, .int .i64 r.w, .slice a4 r.r.length k4] 50)).heap[w.heap.size]? = some (.cells #[.int .i64 r.x, .int .i64 r.y, .int .i64 r.w, .slice a4 r.r.length k4] 50 (0, 0)) := heap_alloc_at rfl
  obtain ⟨⟨z0, z1, z2, z3⟩, -⟩ := blk4 pB
  cases hp : pairB r
  · have hF : Hid (boxCodeL r = []) := Lib.hid (by simp [boxCodeL, hp])
    replace hp := Lib.hid hp
    go_enter Try.func36, Try.ntmps36
    go_wp2_with fail
    refine (c_isPair _ r _ (h2.below hA)).mono ?_
    rintro e w2 ⟨rfl, hB⟩
    rw [hp.out]
    go_wp2
    go_ret2
    exact ⟨_, rfl, by rw [hF.out]; exact own_nil _ _, bstep hA hB⟩
  · obtain ⟨hbb, hxx, hyy, hlen⟩ := pairB_facts hp
    have hF : Hid (boxCodeL r = mapR (gV r) 8) := Lib.hid (by simp [boxCodeL, hp])
    have hcl4 := fun q (hq : q < 4) => boxB_row hbb (show q < r.r.length by omega)
    have hcb := fun n j => boxB_cell hbb (show (gA n).1 < r.r.length by rw [hlen]; unfold gA; split <;> decide) j
    replace hp := Lib.hid hp
    replace hcl4 := Lib.hid hcl4
    replace hcb := Lib.hid hcb
    replace hbb := Lib.hid hbb
    replace hlen := Lib.hid hlen
    replace hxx := Lib.hid hxx
    replace hyy := Lib.hid hyy
    have hi0 := ix20
    have hi1 := ix21
    go_enter Try.func36, Try.ntmps36
    go_wp2_with fail
    refine (c_isPair _ r _ (h2.below hA)).mono ?_
    rintro e w2 ⟨rfl, hB⟩
    rw [hp.out]
    have hsz2 := hB.size
    simp only [World.size_alloc] at hsz2
    have hB1 : Below (w.heap.size + 1) (w.alloc (.cells #[.int .i64 r.x, .int .i64 r.y, .int .i64 r.w, .slice a4 r.r.length k4] 50)) w2 := hB.mono (by simp)
    have hown2 := own_empty w2 (w.heap.size + 1) (by omega)
    have hB2 := hB1.alloc (by omega) (.cells #[] 3)
    clear hB hB1 z0 z1 z2 z3
    go_wp2_with fail
    go_loopw [4, 14] (fun v j wr => ∃ k : Nat, k ≤ 4 ∧ j = .int .i64 k ∧ OwnI wr (w.heap.size + 1) v (mapR (gV r) (2 * k)) ∧ Below (w.heap.size + 1) (w.alloc (.cells #[.int .i64 r.x, .int .i64 r.y, .int .i64 r.w, .slice a4 r.r.length k4] 50)) wr) (fun _ j _ => 4 - (intOf j).toNat)
    case atStart => exact ⟨0, Nat.zero_le _, rfl, hown2, hB2⟩
    case round =>
      clear hown2 hB2
      obtain ⟨k, hk, rfl, hown, hB⟩ := hrel
      have hk5 : k = 0 ∨ k = 1 ∨ k = 2 ∨ k = 3 ∨ k = 4 := by omega
      rcases hk5 with rfl | rfl | rfl | rfl | rfl
      · skip
        go_wp2_with fail
        go_loopw [4, 21] (fun v j wr => ∃ i : Nat, i ≤ 2 ∧ j = .int .i64 i ∧ OwnI wr (w.heap.size + 1) v (mapR (gV r) (2 * 0 + i)) ∧ Below (w.heap.size + 1) (w.alloc (.cells #[.int .i64 r.x, .int .i64 r.y, .int .i64 r.w, .slice a4 r.r.length k4] 50)) wr) (fun _ j _ => 2 - (intOf j).toNat)
        case atStart => exact ⟨0, by omega, rfl, hown, hB⟩
        case round =>
          clear hown hB
          obtain ⟨i, hi, rfl, hown3, hB3⟩ := hrel
          have hi3 : i = 0 ∨ i = 1 ∨ i = 2 := by omega
          rcases hi3 with rfl | rfl | rfl
          · skip
            have hca := hcb.out 0 0
            have hcc := hcb.out 0 3
            rw [show (gA 0).1 = 0 from rfl] at hca hcc
            have hq : Hid (gV r 0 = cellB r 0 0 + cellB r 0 3) := Lib.hid (gV_eq r 0 (by decide))
            obtain ⟨⟨z0, z1, z2, z3⟩, -⟩ := blk4 ((hB3.block _ (by omega)).trans pB)
            obtain ⟨s7, n7, k7, rfl⟩ := (show ∃ a n c, _ = Value.slice a n c from by obtain ⟨a, c, e, -⟩ := hown3.ints.out; exact ⟨_, _, _, e⟩)
            have hsz3 := hB3.size
            simp only [World.size_alloc] at hsz3
            have hA3 := hA.trans (hB3.mono (by omega))
            go_wp2_with fail
            refine wp_region_rkt (by kernel_rfl) [none, none, none, none, some 19, none, none, none, none, none, none, none, none, none, none, none, none, none, none, none, none, none, none, none, none, none, none, none, none, none, none, some 0, some 1, some 2, some 3, some 4, some 5, some 6, some 7, some 8, some 9, some 10, some 11, some 12, some 13, some 14, some 15, some 16, some 17, some 18] 18 19 (by kernel_rfl) (by kernel_rfl) (by kernel_rfl) _ _ rfl rfl 4 rfl w.heap.size [rkV (.slice s7 n7 k7), rkV (.agg #[.int .i64 r.x, .int .i64 r.y, .int .i64 r.w, .slice a4 r.r.length k4]), rkV (.int .i64 0), rkV (.int .i64 0), rkV (.int .i64 0), rkV (.int .i64 0), rkV (.int .i64 0), rkV (.int .i64 (cellB r 0 0)), rkV (.agg #[.int .i64 r.x, .int .i64 r.y, .int .i64 r.w, .slice a4 r.r.length k4]), rkV (.int .i64 0), rkV (.int .i64 0), rkV (.int .i64 0), rkV (.int .i64 0), rkV (.int .i64 0), rkV (.int .i64 1), rkV (.int .i64 (cellB r 0 3)), rkV (.int .i64 (cellB r 0 0 + cellB r 0 3)), rkL [cellB r 0 0 + cellB r 0 3]] _ rfl (by kernel_rfl) (by simp) ?_ ?_
            · intro i o ho hi hi2 u g ww hbw hu2 hd
              replace hu2 : u 19 = .slice s7 n7 k7 := hu2
              have hall : Below w.heap.size w ww := hA3.trans (hbw.mono (by omega))
              have hlow : w.heap.size ≤ ww.heap.size := hall.size
              obtain ⟨hcl, hfr⟩ := bcell hbw
              have y_z0 := (hcl _ _ (by omega)).trans z0
              have y_z1 := (hcl _ _ (by omega)).trans z1
              have y_z2 := (hcl _ _ (by omega)).trans z2
              have y_z3 := (hcl _ _ (by omega)).trans z3
              clear hcl hfr
              rcases i with _ | _ | _ | _ | _ | _ | _ | _ | _ | _ | _ | _ | _ | _ | _ | _ | _ | _ | _ | _ | i
              all_goals try obtain rfl := Option.some.inj ho
              all_goals try simp only [putAll, fillL]
              · rw [hu2]
                go_wp2
                exact ⟨_, by simp only [putAll, fillL, hu2] <;> rfl, kept0 (Below.refl _ _), rfl⟩
              · go_wp2
                exact ⟨_, by simp only [putAll, fillL, hu2] <;> rfl, kept0 (Below.refl _ _), rfl⟩
              · go_wp2
                exact ⟨_, by simp only [putAll, fillL, hu2] <;> rfl, kept0 (Below.refl _ _), rfl⟩
              · go_wp2
                exact ⟨_, by simp only [putAll, fillL, hu2] <;> rfl, kept0 (Below.refl _ _), rfl⟩
              · have e2 : u 2 = .int .i64 0 := hd 2 (by decide)
                rw [e2]
                have e3 : u 3 = .int .i64 0 := hd 3 (by decide)
                rw [e3]
                go_wp2
                exact ⟨_, by simp only [putAll, fillL, hu2, e2, e3] <;> rfl, kept0 (Below.refl _ _), rfl⟩
              · go_wp2
                exact ⟨_, by simp only [putAll, fillL, hu2] <;> rfl, kept0 (Below.refl _ _), rfl⟩
              · go_wp2
                exact ⟨_, by simp only [putAll, fillL, hu2] <;> rfl, kept0 (Below.refl _ _), rfl⟩
              · have e1 : u 1 = .agg #[.int .i64 r.x, .int .i64 r.y, .int .i64 r.w, .slice a4 r.r.length k4] := hd 1 (by decide)
                rw [e1]
                have e4 : u 4 = .int .i64 0 := hd 4 (by decide)
                rw [e4]
                have e5 : u 5 = .int .i64 0 := hd 5 (by decide)
                rw [e5]
                have e6 : u 6 = .int .i64 0 := hd 6 (by decide)
                rw [e6]
                go_wp2_with fail
                refine (c_at _ r 0 0 0 0 2 _ (h2.below hall) hyy.out (by decide) (by rw [hlen.out]; decide) (by rw [show 0 * 2 + 0 = 0 from rfl, (hcl4.out 0 (by decide)).1]; decide) (by decide)).mono ?_
                rintro e wn ⟨rfl, hbn⟩
                go_wp2
                exact ⟨_, by simp only [putAll, fillL, hu2, e1, e4, e5, e6] <;> rfl, kept0 hbn, rfl⟩
              · go_wp2
                exact ⟨_, by simp only [putAll, fillL, hu2] <;> rfl, kept0 (Below.refl _ _), rfl⟩
              · go_wp2
                exact ⟨_, by simp only [putAll, fillL, hu2] <;> rfl, kept0 (Below.refl _ _), rfl⟩
              · go_wp2
                exact ⟨_, by simp only [putAll, fillL, hu2] <;> rfl, kept0 (Below.refl _ _), rfl⟩
              · have e9 : u 9 = .int .i64 0 := hd 9 (by decide)
                rw [e9]
                have e10 : u 10 = .int .i64 0 := hd 10 (by decide)
                rw [e10]
                go_wp2
                exact ⟨_, by simp only [putAll, fillL, hu2, e9, e10] <;> rfl, kept0 (Below.refl _ _), rfl⟩
              · go_wp2
                exact ⟨_, by simp only [putAll, fillL, hu2] <;> rfl, kept0 (Below.refl _ _), rfl⟩
              · go_wp2
                exact ⟨_, by simp only [putAll, fillL, hu2] <;> rfl, kept0 (Below.refl _ _), rfl⟩
              · have e13 : u 13 = .int .i64 0 := hd 13 (by decide)
                rw [e13]
                go_wp2
                exact ⟨_, by simp only [putAll, fillL, hu2, e13] <;> rfl, kept0 (Below.refl _ _), rfl⟩
              · have e8 : u 8 = .agg #[.int .i64 r.x, .int .i64 r.y, .int .i64 r.w, .slice a4 r.r.length k4] := hd 8 (by decide)
                rw [e8]
                have e11 : u 11 = .int .i64 0 := hd 11 (by decide)
                rw [e11]
                have e12 : u 12 = .int .i64 0 := hd 12 (by decide)
                rw [e12]
                have e14 : u 14 = .int .i64 1 := hd 14 (by decide)
                rw [e14]
                go_wp2_with fail
                refine (c_at _ r 0 0 1 1 2 _ (h2.below hall) hyy.out (by decide) (by rw [hlen.out]; decide) (by rw [show 0 * 2 + 0 = 0 from rfl, (hcl4.out 0 (by decide)).1]; decide) (by decide)).mono ?_
                rintro e wn ⟨rfl, hbn⟩
                go_wp2
                exact ⟨_, by simp only [putAll, fillL, hu2, e8, e11, e12, e14] <;> rfl, kept0 hbn, rfl⟩
              · have e7 : u 7 = .int .i64 (cellB r 0 0) := hd 7 (by decide)
                rw [e7]
                have e15 : u 15 = .int .i64 (cellB r 0 3) := hd 15 (by decide)
                rw [e15]
                go_wp2
                exact ⟨_, by simp only [putAll, fillL, hu2, e7, e15] <;> rfl, kept0 (Below.refl _ _), rfl⟩
              · have e16 : u 16 = .int .i64 (cellB r 0 0 + cellB r 0 3) := hd 16 (by decide)
                rw [e16]
                go_wp2
                exact ⟨_, by simp only [putAll, fillL, hu2, e16] <;> rfl, kept0 ((Below.refl _ _).alloc (Nat.le_refl _) _), own_nums ww w.heap.size [cellB r 0 0 + cellB r 0 3] _ 1 rfl rfl hlow (by simp)⟩
              · exact absurd rfl hi
              · exact absurd rfl hi2
              · simp at ho
            · intro u g w5 hbw hu2 hR hAp
              have R17 : OwnF w5 w.heap.size (InI (g 17)) (u 17) [cellB r 0 0 + cellB r 0 3] := hR 17 (by decide) (by decide) (by decide)
              have e0 : u 0 = .slice s7 n7 k7 := hR 0 (by decide) (by decide) (by decide)
              have rd := R17.rd
              obtain ⟨p17, q17, e17, -⟩ := id rd.out
              replace hu2 : u 19 = .slice s7 n7 k7 := hu2
              have hown5 := hown3.below hbw
              have hB5 := hB3.trans (hbw.mono (by omega))
              have hsz5 := hbw.size
              clear hR hAp R17 z0 z1 z2 z3 hbw hown3 hB3 hA3
              simp only [putAll, fillL]
              rw [hu2, e17, e0]
              rw [e17] at rd
              refine wp_append_intsG w5 rfl (.tmp 31) (.tmp 48) rfl (w.heap.size + 1) _ _ rfl hown5 _ [cellB r 0 0 + cellB r 0 3] rfl rd (by simp) (by rw [mapR_len]; simp) (by omega) ?_
              intro v' w6 h6 hgr hne6 hblk
              rw [← hq.out] at h6
              replace h6 : OwnI w6 (w.heap.size + 1) v' (mapR (gV r) (2 * 0 + (0 + 1))) := by rw [show 2 * 0 + (0 + 1) = 0 + 1 from rfl, mapR_succ]; exact h6
              have hB6 := hB5.trans ((grown_kept hgr).below (fun g e => (OwnS.lt hown5 g e).1) (by omega))
              clear hblk hgr hB5 hown5
              go_wp2
              go_roundw
              case rel => first | exact ⟨0 + 1, by omega, by go_num, h6, hB6⟩ | ((repeat apply Exists.intro); exact ⟨⟨0 + 1, by decide, rfl, h6, hB6⟩, rfl⟩)
              case measure => simp [intOf]
          · skip
            have hca := hcb.out 1 0
            have hcc := hcb.out 1 3
            rw [show (gA 1).1 = 1 from rfl] at hca hcc
            have hq : Hid (gV r 1 = cellB r 1 0 + cellB r 1 3) := Lib.hid (gV_eq r 1 (by decide))
            obtain ⟨⟨z0, z1, z2, z3⟩, -⟩ := blk4 ((hB3.block _ (by omega)).trans pB)
            obtain ⟨s7, n7, k7, rfl⟩ := (show ∃ a n c, _ = Value.slice a n c from by obtain ⟨a, c, e, -⟩ := hown3.ints.out; exact ⟨_, _, _, e⟩)
            have hsz3 := hB3.size
            simp only [World.size_alloc] at hsz3
            have hA3 := hA.trans (hB3.mono (by omega))
            go_wp2_with fail
            refine wp_region_rkt (by kernel_rfl) [none, none, none, none, some 19, none, none, none, none, none, none, none, none, none, none, none, none, none, none, none, none, none, none, none, none, none, none, none, none, none, none, some 0, some 1, some 2, some 3, some 4, some 5, some 6, some 7, some 8, some 9, some 10, some 11, some 12, some 13, some 14, some 15, some 16, some 17, some 18] 18 19 (by kernel_rfl) (by kernel_rfl) (by kernel_rfl) _ _ rfl rfl 4 rfl w.heap.size [rkV (.slice s7 n7 k7), rkV (.agg #[.int .i64 r.x, .int .i64 r.y, .int .i64 r.w, .slice a4 r.r.length k4]), rkV (.int .i64 0), rkV (.int .i64 0), rkV (.int .i64 0), rkV (.int .i64 1), rkV (.int .i64 0), rkV (.int .i64 (cellB r 1 0)), rkV (.agg #[.int .i64 r.x, .int .i64 r.y, .int .i64 r.w, .slice a4 r.r.length k4]), rkV (.int .i64 0), rkV (.int .i64 0), rkV (.int .i64 0), rkV (.int .i64 1), rkV (.int .i64 0), rkV (.int .i64 1), rkV (.int .i64 (cellB r 1 3)), rkV (.int .i64 (cellB r 1 0 + cellB r 1 3)), rkL [cellB r 1 0 + cellB r 1 3]] _ rfl (by kernel_rfl) (by simp) ?_ ?_
            · intro i o ho hi hi2 u g ww hbw hu2 hd
              replace hu2 : u 19 = .slice s7 n7 k7 := hu2
              have hall : Below w.heap.size w ww := hA3.trans (hbw.mono (by omega))
              have hlow : w.heap.size ≤ ww.heap.size := hall.size
              obtain ⟨hcl, hfr⟩ := bcell hbw
              have y_z0 := (hcl _ _ (by omega)).trans z0
              have y_z1 := (hcl _ _ (by omega)).trans z1
              have y_z2 := (hcl _ _ (by omega)).trans z2
              have y_z3 := (hcl _ _ (by omega)).trans z3
              clear hcl hfr
              rcases i with _ | _ | _ | _ | _ | _ | _ | _ | _ | _ | _ | _ | _ | _ | _ | _ | _ | _ | _ | _ | i
              all_goals try obtain rfl := Option.some.inj ho
              all_goals try simp only [putAll, fillL]
              · rw [hu2]
                go_wp2
                exact ⟨_, by simp only [putAll, fillL, hu2] <;> rfl, kept0 (Below.refl _ _), rfl⟩
              · go_wp2
                exact ⟨_, by simp only [putAll, fillL, hu2] <;> rfl, kept0 (Below.refl _ _), rfl⟩
              · go_wp2
                exact ⟨_, by simp only [putAll, fillL, hu2] <;> rfl, kept0 (Below.refl _ _), rfl⟩
              · go_wp2
                exact ⟨_, by simp only [putAll, fillL, hu2] <;> rfl, kept0 (Below.refl _ _), rfl⟩
              · have e2 : u 2 = .int .i64 0 := hd 2 (by decide)
                rw [e2]
                have e3 : u 3 = .int .i64 0 := hd 3 (by decide)
                rw [e3]
                go_wp2
                exact ⟨_, by simp only [putAll, fillL, hu2, e2, e3] <;> rfl, kept0 (Below.refl _ _), rfl⟩
              · go_wp2
                exact ⟨_, by simp only [putAll, fillL, hu2] <;> rfl, kept0 (Below.refl _ _), rfl⟩
              · go_wp2
                exact ⟨_, by simp only [putAll, fillL, hu2] <;> rfl, kept0 (Below.refl _ _), rfl⟩
              · have e1 : u 1 = .agg #[.int .i64 r.x, .int .i64 r.y, .int .i64 r.w, .slice a4 r.r.length k4] := hd 1 (by decide)
                rw [e1]
                have e4 : u 4 = .int .i64 0 := hd 4 (by decide)
                rw [e4]
                have e5 : u 5 = .int .i64 1 := hd 5 (by decide)
                rw [e5]
                have e6 : u 6 = .int .i64 0 := hd 6 (by decide)
                rw [e6]
                go_wp2_with fail
                refine (c_at _ r 0 1 0 0 2 _ (h2.below hall) hyy.out (by decide) (by rw [hlen.out]; decide) (by rw [show 0 * 2 + 1 = 1 from rfl, (hcl4.out 1 (by decide)).1]; decide) (by decide)).mono ?_
                rintro e wn ⟨rfl, hbn⟩
                go_wp2
                exact ⟨_, by simp only [putAll, fillL, hu2, e1, e4, e5, e6] <;> rfl, kept0 hbn, rfl⟩
              · go_wp2
                exact ⟨_, by simp only [putAll, fillL, hu2] <;> rfl, kept0 (Below.refl _ _), rfl⟩
              · go_wp2
                exact ⟨_, by simp only [putAll, fillL, hu2] <;> rfl, kept0 (Below.refl _ _), rfl⟩
              · go_wp2
                exact ⟨_, by simp only [putAll, fillL, hu2] <;> rfl, kept0 (Below.refl _ _), rfl⟩
              · have e9 : u 9 = .int .i64 0 := hd 9 (by decide)
                rw [e9]
                have e10 : u 10 = .int .i64 0 := hd 10 (by decide)
                rw [e10]
                go_wp2
                exact ⟨_, by simp only [putAll, fillL, hu2, e9, e10] <;> rfl, kept0 (Below.refl _ _), rfl⟩
              · go_wp2
                exact ⟨_, by simp only [putAll, fillL, hu2] <;> rfl, kept0 (Below.refl _ _), rfl⟩
              · go_wp2
                exact ⟨_, by simp only [putAll, fillL, hu2] <;> rfl, kept0 (Below.refl _ _), rfl⟩
              · have e13 : u 13 = .int .i64 0 := hd 13 (by decide)
                rw [e13]
                go_wp2
                exact ⟨_, by simp only [putAll, fillL, hu2, e13] <;> rfl, kept0 (Below.refl _ _), rfl⟩
              · have e8 : u 8 = .agg #[.int .i64 r.x, .int .i64 r.y, .int .i64 r.w, .slice a4 r.r.length k4] := hd 8 (by decide)
                rw [e8]
                have e11 : u 11 = .int .i64 0 := hd 11 (by decide)
                rw [e11]
                have e12 : u 12 = .int .i64 1 := hd 12 (by decide)
                rw [e12]
                have e14 : u 14 = .int .i64 1 := hd 14 (by decide)
                rw [e14]
                go_wp2_with fail
                refine (c_at _ r 0 1 1 1 2 _ (h2.below hall) hyy.out (by decide) (by rw [hlen.out]; decide) (by rw [show 0 * 2 + 1 = 1 from rfl, (hcl4.out 1 (by decide)).1]; decide) (by decide)).mono ?_
                rintro e wn ⟨rfl, hbn⟩
                go_wp2
                exact ⟨_, by simp only [putAll, fillL, hu2, e8, e11, e12, e14] <;> rfl, kept0 hbn, rfl⟩
              · have e7 : u 7 = .int .i64 (cellB r 1 0) := hd 7 (by decide)
                rw [e7]
                have e15 : u 15 = .int .i64 (cellB r 1 3) := hd 15 (by decide)
                rw [e15]
                go_wp2
                exact ⟨_, by simp only [putAll, fillL, hu2, e7, e15] <;> rfl, kept0 (Below.refl _ _), rfl⟩
              · have e16 : u 16 = .int .i64 (cellB r 1 0 + cellB r 1 3) := hd 16 (by decide)
                rw [e16]
                go_wp2
                exact ⟨_, by simp only [putAll, fillL, hu2, e16] <;> rfl, kept0 ((Below.refl _ _).alloc (Nat.le_refl _) _), own_nums ww w.heap.size [cellB r 1 0 + cellB r 1 3] _ 1 rfl rfl hlow (by simp)⟩
              · exact absurd rfl hi
              · exact absurd rfl hi2
              · simp at ho
            · intro u g w5 hbw hu2 hR hAp
              have R17 : OwnF w5 w.heap.size (InI (g 17)) (u 17) [cellB r 1 0 + cellB r 1 3] := hR 17 (by decide) (by decide) (by decide)
              have e0 : u 0 = .slice s7 n7 k7 := hR 0 (by decide) (by decide) (by decide)
              have rd := R17.rd
              obtain ⟨p17, q17, e17, -⟩ := id rd.out
              replace hu2 : u 19 = .slice s7 n7 k7 := hu2
              have hown5 := hown3.below hbw
              have hB5 := hB3.trans (hbw.mono (by omega))
              have hsz5 := hbw.size
              clear hR hAp R17 z0 z1 z2 z3 hbw hown3 hB3 hA3
              simp only [putAll, fillL]
              rw [hu2, e17, e0]
              rw [e17] at rd
              refine wp_append_intsG w5 rfl (.tmp 31) (.tmp 48) rfl (w.heap.size + 1) _ _ rfl hown5 _ [cellB r 1 0 + cellB r 1 3] rfl rd (by simp) (by rw [mapR_len]; simp) (by omega) ?_
              intro v' w6 h6 hgr hne6 hblk
              rw [← hq.out] at h6
              replace h6 : OwnI w6 (w.heap.size + 1) v' (mapR (gV r) (2 * 0 + (1 + 1))) := by rw [show 2 * 0 + (1 + 1) = 1 + 1 from rfl, mapR_succ]; exact h6
              have hB6 := hB5.trans ((grown_kept hgr).below (fun g e => (OwnS.lt hown5 g e).1) (by omega))
              clear hblk hgr hB5 hown5
              go_wp2
              go_roundw
              case rel => first | exact ⟨1 + 1, by omega, by go_num, h6, hB6⟩ | ((repeat apply Exists.intro); exact ⟨⟨1 + 1, by decide, rfl, h6, hB6⟩, rfl⟩)
              case measure => simp [intOf]
          · go_wp2
            go_roundw
            case rel => exact ⟨0 + 1, by omega, by go_num, hown3, hB3⟩
            case measure => simp [intOf]
      · skip
        go_wp2_with fail
        go_loopw [4, 21] (fun v j wr => ∃ i : Nat, i ≤ 2 ∧ j = .int .i64 i ∧ OwnI wr (w.heap.size + 1) v (mapR (gV r) (2 * 1 + i)) ∧ Below (w.heap.size + 1) (w.alloc (.cells #[.int .i64 r.x, .int .i64 r.y, .int .i64 r.w, .slice a4 r.r.length k4] 50)) wr) (fun _ j _ => 2 - (intOf j).toNat)
        case atStart => exact ⟨0, by omega, rfl, hown, hB⟩
        case round =>
          clear hown hB
          obtain ⟨i, hi, rfl, hown3, hB3⟩ := hrel
          have hi3 : i = 0 ∨ i = 1 ∨ i = 2 := by omega
          rcases hi3 with rfl | rfl | rfl
          · skip
            have hca := hcb.out 2 0
            have hcc := hcb.out 2 3
            rw [show (gA 2).1 = 2 from rfl] at hca hcc
            have hq : Hid (gV r 2 = cellB r 2 0 + cellB r 2 3) := Lib.hid (gV_eq r 2 (by decide))
            obtain ⟨⟨z0, z1, z2, z3⟩, -⟩ := blk4 ((hB3.block _ (by omega)).trans pB)
            obtain ⟨s7, n7, k7, rfl⟩ := (show ∃ a n c, _ = Value.slice a n c from by obtain ⟨a, c, e, -⟩ := hown3.ints.out; exact ⟨_, _, _, e⟩)
            have hsz3 := hB3.size
            simp only [World.size_alloc] at hsz3
            have hA3 := hA.trans (hB3.mono (by omega))
            go_wp2_with fail
            refine wp_region_rkt (by kernel_rfl) [none, none, none, none, some 19, none, none, none, none, none, none, none, none, none, none, none, none, none, none, none, none, none, none, none, none, none, none, none, none, none, none, some 0, some 1, some 2, some 3, some 4, some 5, some 6, some 7, some 8, some 9, some 10, some 11, some 12, some 13, some 14, some 15, some 16, some 17, some 18] 18 19 (by kernel_rfl) (by kernel_rfl) (by kernel_rfl) _ _ rfl rfl 4 rfl w.heap.size [rkV (.slice s7 n7 k7), rkV (.agg #[.int .i64 r.x, .int .i64 r.y, .int .i64 r.w, .slice a4 r.r.length k4]), rkV (.int .i64 1), rkV (.int .i64 0), rkV (.int .i64 1), rkV (.int .i64 0), rkV (.int .i64 0), rkV (.int .i64 (cellB r 2 0)), rkV (.agg #[.int .i64 r.x, .int .i64 r.y, .int .i64 r.w, .slice a4 r.r.length k4]), rkV (.int .i64 1), rkV (.int .i64 0), rkV (.int .i64 1), rkV (.int .i64 0), rkV (.int .i64 0), rkV (.int .i64 1), rkV (.int .i64 (cellB r 2 3)), rkV (.int .i64 (cellB r 2 0 + cellB r 2 3)), rkL [cellB r 2 0 + cellB r 2 3]] _ rfl (by kernel_rfl) (by simp) ?_ ?_
            · intro i o ho hi hi2 u g ww hbw hu2 hd
              replace hu2 : u 19 = .slice s7 n7 k7 := hu2
              have hall : Below w.heap.size w ww := hA3.trans (hbw.mono (by omega))
              have hlow : w.heap.size ≤ ww.heap.size := hall.size
              obtain ⟨hcl, hfr⟩ := bcell hbw
              have y_z0 := (hcl _ _ (by omega)).trans z0
              have y_z1 := (hcl _ _ (by omega)).trans z1
              have y_z2 := (hcl _ _ (by omega)).trans z2
              have y_z3 := (hcl _ _ (by omega)).trans z3
              clear hcl hfr
              rcases i with _ | _ | _ | _ | _ | _ | _ | _ | _ | _ | _ | _ | _ | _ | _ | _ | _ | _ | _ | _ | i
              all_goals try obtain rfl := Option.some.inj ho
              all_goals try simp only [putAll, fillL]
              · rw [hu2]
                go_wp2
                exact ⟨_, by simp only [putAll, fillL, hu2] <;> rfl, kept0 (Below.refl _ _), rfl⟩
              · go_wp2
                exact ⟨_, by simp only [putAll, fillL, hu2] <;> rfl, kept0 (Below.refl _ _), rfl⟩
              · go_wp2
                exact ⟨_, by simp only [putAll, fillL, hu2] <;> rfl, kept0 (Below.refl _ _), rfl⟩
              · go_wp2
                exact ⟨_, by simp only [putAll, fillL, hu2] <;> rfl, kept0 (Below.refl _ _), rfl⟩
              · have e2 : u 2 = .int .i64 1 := hd 2 (by decide)
                rw [e2]
                have e3 : u 3 = .int .i64 0 := hd 3 (by decide)
                rw [e3]
                go_wp2
                exact ⟨_, by simp only [putAll, fillL, hu2, e2, e3] <;> rfl, kept0 (Below.refl _ _), rfl⟩
              · go_wp2
                exact ⟨_, by simp only [putAll, fillL, hu2] <;> rfl, kept0 (Below.refl _ _), rfl⟩
              · go_wp2
                exact ⟨_, by simp only [putAll, fillL, hu2] <;> rfl, kept0 (Below.refl _ _), rfl⟩
              · have e1 : u 1 = .agg #[.int .i64 r.x, .int .i64 r.y, .int .i64 r.w, .slice a4 r.r.length k4] := hd 1 (by decide)
                rw [e1]
                have e4 : u 4 = .int .i64 1 := hd 4 (by decide)
                rw [e4]
                have e5 : u 5 = .int .i64 0 := hd 5 (by decide)
                rw [e5]
                have e6 : u 6 = .int .i64 0 := hd 6 (by decide)
                rw [e6]
                go_wp2_with fail
                refine (c_at _ r 1 0 0 0 2 _ (h2.below hall) hyy.out (by decide) (by rw [hlen.out]; decide) (by rw [show 1 * 2 + 0 = 2 from rfl, (hcl4.out 2 (by decide)).1]; decide) (by decide)).mono ?_
                rintro e wn ⟨rfl, hbn⟩
                go_wp2
                exact ⟨_, by simp only [putAll, fillL, hu2, e1, e4, e5, e6] <;> rfl, kept0 hbn, rfl⟩
              · go_wp2
                exact ⟨_, by simp only [putAll, fillL, hu2] <;> rfl, kept0 (Below.refl _ _), rfl⟩
              · go_wp2
                exact ⟨_, by simp only [putAll, fillL, hu2] <;> rfl, kept0 (Below.refl _ _), rfl⟩
              · go_wp2
                exact ⟨_, by simp only [putAll, fillL, hu2] <;> rfl, kept0 (Below.refl _ _), rfl⟩
              · have e9 : u 9 = .int .i64 1 := hd 9 (by decide)
                rw [e9]
                have e10 : u 10 = .int .i64 0 := hd 10 (by decide)
                rw [e10]
                go_wp2
                exact ⟨_, by simp only [putAll, fillL, hu2, e9, e10] <;> rfl, kept0 (Below.refl _ _), rfl⟩
              · go_wp2
                exact ⟨_, by simp only [putAll, fillL, hu2] <;> rfl, kept0 (Below.refl _ _), rfl⟩
              · go_wp2
                exact ⟨_, by simp only [putAll, fillL, hu2] <;> rfl, kept0 (Below.refl _ _), rfl⟩
              · have e13 : u 13 = .int .i64 0 := hd 13 (by decide)
                rw [e13]
                go_wp2
                exact ⟨_, by simp only [putAll, fillL, hu2, e13] <;> rfl, kept0 (Below.refl _ _), rfl⟩
              · have e8 : u 8 = .agg #[.int .i64 r.x, .int .i64 r.y, .int .i64 r.w, .slice a4 r.r.length k4] := hd 8 (by decide)
                rw [e8]
                have e11 : u 11 = .int .i64 1 := hd 11 (by decide)
                rw [e11]
                have e12 : u 12 = .int .i64 0 := hd 12 (by decide)
                rw [e12]
                have e14 : u 14 = .int .i64 1 := hd 14 (by decide)
                rw [e14]
                go_wp2_with fail
                refine (c_at _ r 1 0 1 1 2 _ (h2.below hall) hyy.out (by decide) (by rw [hlen.out]; decide) (by rw [show 1 * 2 + 0 = 2 from rfl, (hcl4.out 2 (by decide)).1]; decide) (by decide)).mono ?_
                rintro e wn ⟨rfl, hbn⟩
                go_wp2
                exact ⟨_, by simp only [putAll, fillL, hu2, e8, e11, e12, e14] <;> rfl, kept0 hbn, rfl⟩
              · have e7 : u 7 = .int .i64 (cellB r 2 0) := hd 7 (by decide)
                rw [e7]
                have e15 : u 15 = .int .i64 (cellB r 2 3) := hd 15 (by decide)
                rw [e15]
                go_wp2
                exact ⟨_, by simp only [putAll, fillL, hu2, e7, e15] <;> rfl, kept0 (Below.refl _ _), rfl⟩
              · have e16 : u 16 = .int .i64 (cellB r 2 0 + cellB r 2 3) := hd 16 (by decide)
                rw [e16]
                go_wp2
                exact ⟨_, by simp only [putAll, fillL, hu2, e16] <;> rfl, kept0 ((Below.refl _ _).alloc (Nat.le_refl _) _), own_nums ww w.heap.size [cellB r 2 0 + cellB r 2 3] _ 1 rfl rfl hlow (by simp)⟩
              · exact absurd rfl hi
              · exact absurd rfl hi2
              · simp at ho
            · intro u g w5 hbw hu2 hR hAp
              have R17 : OwnF w5 w.heap.size (InI (g 17)) (u 17) [cellB r 2 0 + cellB r 2 3] := hR 17 (by decide) (by decide) (by decide)
              have e0 : u 0 = .slice s7 n7 k7 := hR 0 (by decide) (by decide) (by decide)
              have rd := R17.rd
              obtain ⟨p17, q17, e17, -⟩ := id rd.out
              replace hu2 : u 19 = .slice s7 n7 k7 := hu2
              have hown5 := hown3.below hbw
              have hB5 := hB3.trans (hbw.mono (by omega))
              have hsz5 := hbw.size
              clear hR hAp R17 z0 z1 z2 z3 hbw hown3 hB3 hA3
              simp only [putAll, fillL]
              rw [hu2, e17, e0]
              rw [e17] at rd
              refine wp_append_intsG w5 rfl (.tmp 31) (.tmp 48) rfl (w.heap.size + 1) _ _ rfl hown5 _ [cellB r 2 0 + cellB r 2 3] rfl rd (by simp) (by rw [mapR_len]; simp) (by omega) ?_
              intro v' w6 h6 hgr hne6 hblk
              rw [← hq.out] at h6
              replace h6 : OwnI w6 (w.heap.size + 1) v' (mapR (gV r) (2 * 1 + (0 + 1))) := by rw [show 2 * 1 + (0 + 1) = 2 + 1 from rfl, mapR_succ]; exact h6
              have hB6 := hB5.trans ((grown_kept hgr).below (fun g e => (OwnS.lt hown5 g e).1) (by omega))
              clear hblk hgr hB5 hown5
              go_wp2
              go_roundw
              case rel => first | exact ⟨0 + 1, by omega, by go_num, h6, hB6⟩ | ((repeat apply Exists.intro); exact ⟨⟨0 + 1, by decide, rfl, h6, hB6⟩, rfl⟩)
              case measure => simp [intOf]
          · skip
            have hca := hcb.out 3 1
            have hcc := hcb.out 3 2
            rw [show (gA 3).1 = 3 from rfl] at hca hcc
            have hq : Hid (gV r 3 = cellB r 3 1 + cellB r 3 2) := Lib.hid (gV_eq r 3 (by decide))
            obtain ⟨⟨z0, z1, z2, z3⟩, -⟩ := blk4 ((hB3.block _ (by omega)).trans pB)
            obtain ⟨s7, n7, k7, rfl⟩ := (show ∃ a n c, _ = Value.slice a n c from by obtain ⟨a, c, e, -⟩ := hown3.ints.out; exact ⟨_, _, _, e⟩)
            have hsz3 := hB3.size
            simp only [World.size_alloc] at hsz3
            have hA3 := hA.trans (hB3.mono (by omega))
            go_wp2_with fail
            refine wp_region_rkt (by kernel_rfl) [none, none, none, none, some 19, none, none, none, none, none, none, none, none, none, none, none, none, none, none, none, none, none, none, none, none, none, none, none, none, none, none, some 0, some 1, some 2, some 3, some 4, some 5, some 6, some 7, some 8, some 9, some 10, some 11, some 12, some 13, some 14, some 15, some 16, some 17, some 18] 18 19 (by kernel_rfl) (by kernel_rfl) (by kernel_rfl) _ _ rfl rfl 4 rfl w.heap.size [rkV (.slice s7 n7 k7), rkV (.agg #[.int .i64 r.x, .int .i64 r.y, .int .i64 r.w, .slice a4 r.r.length k4]), rkV (.int .i64 1), rkV (.int .i64 0), rkV (.int .i64 1), rkV (.int .i64 1), rkV (.int .i64 1), rkV (.int .i64 (cellB r 3 1)), rkV (.agg #[.int .i64 r.x, .int .i64 r.y, .int .i64 r.w, .slice a4 r.r.length k4]), rkV (.int .i64 1), rkV (.int .i64 0), rkV (.int .i64 1), rkV (.int .i64 1), rkV (.int .i64 1), rkV (.int .i64 0), rkV (.int .i64 (cellB r 3 2)), rkV (.int .i64 (cellB r 3 1 + cellB r 3 2)), rkL [cellB r 3 1 + cellB r 3 2]] _ rfl (by kernel_rfl) (by simp) ?_ ?_
            · intro i o ho hi hi2 u g ww hbw hu2 hd
              replace hu2 : u 19 = .slice s7 n7 k7 := hu2
              have hall : Below w.heap.size w ww := hA3.trans (hbw.mono (by omega))
              have hlow : w.heap.size ≤ ww.heap.size := hall.size
              obtain ⟨hcl, hfr⟩ := bcell hbw
              have y_z0 := (hcl _ _ (by omega)).trans z0
              have y_z1 := (hcl _ _ (by omega)).trans z1
              have y_z2 := (hcl _ _ (by omega)).trans z2
              have y_z3 := (hcl _ _ (by omega)).trans z3
              clear hcl hfr
              rcases i with _ | _ | _ | _ | _ | _ | _ | _ | _ | _ | _ | _ | _ | _ | _ | _ | _ | _ | _ | _ | i
              all_goals try obtain rfl := Option.some.inj ho
              all_goals try simp only [putAll, fillL]
              · rw [hu2]
                go_wp2
                exact ⟨_, by simp only [putAll, fillL, hu2] <;> rfl, kept0 (Below.refl _ _), rfl⟩
              · go_wp2
                exact ⟨_, by simp only [putAll, fillL, hu2] <;> rfl, kept0 (Below.refl _ _), rfl⟩
              · go_wp2
                exact ⟨_, by simp only [putAll, fillL, hu2] <;> rfl, kept0 (Below.refl _ _), rfl⟩
              · go_wp2
                exact ⟨_, by simp only [putAll, fillL, hu2] <;> rfl, kept0 (Below.refl _ _), rfl⟩
              · have e2 : u 2 = .int .i64 1 := hd 2 (by decide)
                rw [e2]
                have e3 : u 3 = .int .i64 0 := hd 3 (by decide)
                rw [e3]
                go_wp2
                exact ⟨_, by simp only [putAll, fillL, hu2, e2, e3] <;> rfl, kept0 (Below.refl _ _), rfl⟩
              · go_wp2
                exact ⟨_, by simp only [putAll, fillL, hu2] <;> rfl, kept0 (Below.refl _ _), rfl⟩
              · go_wp2
                exact ⟨_, by simp only [putAll, fillL, hu2] <;> rfl, kept0 (Below.refl _ _), rfl⟩
              · have e1 : u 1 = .agg #[.int .i64 r.x, .int .i64 r.y, .int .i64 r.w, .slice a4 r.r.length k4] := hd 1 (by decide)
                rw [e1]
                have e4 : u 4 = .int .i64 1 := hd 4 (by decide)
                rw [e4]
                have e5 : u 5 = .int .i64 1 := hd 5 (by decide)
                rw [e5]
                have e6 : u 6 = .int .i64 1 := hd 6 (by decide)
                rw [e6]
                go_wp2_with fail
                refine (c_at _ r 1 1 0 1 2 _ (h2.below hall) hyy.out (by decide) (by rw [hlen.out]; decide) (by rw [show 1 * 2 + 1 = 3 from rfl, (hcl4.out 3 (by decide)).1]; decide) (by decide)).mono ?_
                rintro e wn ⟨rfl, hbn⟩
                go_wp2
                exact ⟨_, by simp only [putAll, fillL, hu2, e1, e4, e5, e6] <;> rfl, kept0 hbn, rfl⟩
              · go_wp2
                exact ⟨_, by simp only [putAll, fillL, hu2] <;> rfl, kept0 (Below.refl _ _), rfl⟩
              · go_wp2
                exact ⟨_, by simp only [putAll, fillL, hu2] <;> rfl, kept0 (Below.refl _ _), rfl⟩
              · go_wp2
                exact ⟨_, by simp only [putAll, fillL, hu2] <;> rfl, kept0 (Below.refl _ _), rfl⟩
              · have e9 : u 9 = .int .i64 1 := hd 9 (by decide)
                rw [e9]
                have e10 : u 10 = .int .i64 0 := hd 10 (by decide)
                rw [e10]
                go_wp2
                exact ⟨_, by simp only [putAll, fillL, hu2, e9, e10] <;> rfl, kept0 (Below.refl _ _), rfl⟩
              · go_wp2
                exact ⟨_, by simp only [putAll, fillL, hu2] <;> rfl, kept0 (Below.refl _ _), rfl⟩
              · go_wp2
                exact ⟨_, by simp only [putAll, fillL, hu2] <;> rfl, kept0 (Below.refl _ _), rfl⟩
              · have e13 : u 13 = .int .i64 1 := hd 13 (by decide)
                rw [e13]
                go_wp2
                exact ⟨_, by simp only [putAll, fillL, hu2, e13] <;> rfl, kept0 (Below.refl _ _), rfl⟩
              · have e8 : u 8 = .agg #[.int .i64 r.x, .int .i64 r.y, .int .i64 r.w, .slice a4 r.r.length k4] := hd 8 (by decide)
                rw [e8]
                have e11 : u 11 = .int .i64 1 := hd 11 (by decide)
                rw [e11]
                have e12 : u 12 = .int .i64 1 := hd 12 (by decide)
                rw [e12]
                have e14 : u 14 = .int .i64 0 := hd 14 (by decide)
                rw [e14]
                go_wp2_with fail
                refine (c_at _ r 1 1 1 0 2 _ (h2.below hall) hyy.out (by decide) (by rw [hlen.out]; decide) (by rw [show 1 * 2 + 1 = 3 from rfl, (hcl4.out 3 (by decide)).1]; decide) (by decide)).mono ?_
                rintro e wn ⟨rfl, hbn⟩
                go_wp2
                exact ⟨_, by simp only [putAll, fillL, hu2, e8, e11, e12, e14] <;> rfl, kept0 hbn, rfl⟩
              · have e7 : u 7 = .int .i64 (cellB r 3 1) := hd 7 (by decide)
                rw [e7]
                have e15 : u 15 = .int .i64 (cellB r 3 2) := hd 15 (by decide)
                rw [e15]
                go_wp2
                exact ⟨_, by simp only [putAll, fillL, hu2, e7, e15] <;> rfl, kept0 (Below.refl _ _), rfl⟩
              · have e16 : u 16 = .int .i64 (cellB r 3 1 + cellB r 3 2) := hd 16 (by decide)
                rw [e16]
                go_wp2
                exact ⟨_, by simp only [putAll, fillL, hu2, e16] <;> rfl, kept0 ((Below.refl _ _).alloc (Nat.le_refl _) _), own_nums ww w.heap.size [cellB r 3 1 + cellB r 3 2] _ 1 rfl rfl hlow (by simp)⟩
              · exact absurd rfl hi
              · exact absurd rfl hi2
              · simp at ho
            · intro u g w5 hbw hu2 hR hAp
              have R17 : OwnF w5 w.heap.size (InI (g 17)) (u 17) [cellB r 3 1 + cellB r 3 2] := hR 17 (by decide) (by decide) (by decide)
              have e0 : u 0 = .slice s7 n7 k7 := hR 0 (by decide) (by decide) (by decide)
              have rd := R17.rd
              obtain ⟨p17, q17, e17, -⟩ := id rd.out
              replace hu2 : u 19 = .slice s7 n7 k7 := hu2
              have hown5 := hown3.below hbw
              have hB5 := hB3.trans (hbw.mono (by omega))
              have hsz5 := hbw.size
              clear hR hAp R17 z0 z1 z2 z3 hbw hown3 hB3 hA3
              simp only [putAll, fillL]
              rw [hu2, e17, e0]
              rw [e17] at rd
              refine wp_append_intsG w5 rfl (.tmp 31) (.tmp 48) rfl (w.heap.size + 1) _ _ rfl hown5 _ [cellB r 3 1 + cellB r 3 2] rfl rd (by simp) (by rw [mapR_len]; simp) (by omega) ?_
              intro v' w6 h6 hgr hne6 hblk
              rw [← hq.out] at h6
              replace h6 : OwnI w6 (w.heap.size + 1) v' (mapR (gV r) (2 * 1 + (1 + 1))) := by rw [show 2 * 1 + (1 + 1) = 3 + 1 from rfl, mapR_succ]; exact h6
              have hB6 := hB5.trans ((grown_kept hgr).below (fun g e => (OwnS.lt hown5 g e).1) (by omega))
              clear hblk hgr hB5 hown5
              go_wp2
              go_roundw
              case rel => first | exact ⟨1 + 1, by omega, by go_num, h6, hB6⟩ | ((repeat apply Exists.intro); exact ⟨⟨1 + 1, by decide, rfl, h6, hB6⟩, rfl⟩)
              case measure => simp [intOf]
          · go_wp2
            go_roundw
            case rel => exact ⟨1 + 1, by omega, by go_num, hown3, hB3⟩
            case measure => simp [intOf]
      · skip
        go_wp2_with fail
        go_loopw [4, 21] (fun v j wr => ∃ i : Nat, i ≤ 2 ∧ j = .int .i64 i ∧ OwnI wr (w.heap.size + 1) v (mapR (gV r) (2 * 2 + i)) ∧ Below (w.heap.size + 1) (w.alloc (.cells #[.int .i64 r.x, .int .i64 r.y, .int .i64 r.w, .slice a4 r.r.length k4] 50)) wr) (fun _ j _ => 2 - (intOf j).toNat)
        case atStart => exact ⟨0, by omega, rfl, hown, hB⟩
        case round =>
          clear hown hB
          obtain ⟨i, hi, rfl, hown3, hB3⟩ := hrel
          have hi3 : i = 0 ∨ i = 1 ∨ i = 2 := by omega
          rcases hi3 with rfl | rfl | rfl
          · skip
            have hca := hcb.out 4 0
            have hcc := hcb.out 4 3
            rw [show (gA 4).1 = 2 from rfl] at hca hcc
            have hq : Hid (gV r 4 = cellB r 2 0 + cellB r 2 3) := Lib.hid (gV_eq r 4 (by decide))
            obtain ⟨⟨z0, z1, z2, z3⟩, -⟩ := blk4 ((hB3.block _ (by omega)).trans pB)
            obtain ⟨s7, n7, k7, rfl⟩ := (show ∃ a n c, _ = Value.slice a n c from by obtain ⟨a, c, e, -⟩ := hown3.ints.out; exact ⟨_, _, _, e⟩)
            have hsz3 := hB3.size
            simp only [World.size_alloc] at hsz3
            have hA3 := hA.trans (hB3.mono (by omega))
            go_wp2_with fail
            refine wp_region_rkt (by kernel_rfl) [none, none, none, none, some 19, none, none, none, none, none, none, none, none, none, none, none, none, none, none, none, none, none, none, none, none, none, none, none, none, none, none, some 0, some 1, some 2, some 3, some 4, some 5, some 6, some 7, some 8, some 9, some 10, some 11, some 12, some 13, some 14, some 15, some 16, some 17, some 18] 18 19 (by kernel_rfl) (by kernel_rfl) (by kernel_rfl) _ _ rfl rfl 4 rfl w.heap.size [rkV (.slice s7 n7 k7), rkV (.agg #[.int .i64 r.x, .int .i64 r.y, .int .i64 r.w, .slice a4 r.r.length k4]), rkV (.int .i64 0), rkV (.int .i64 1), rkV (.int .i64 1), rkV (.int .i64 0), rkV (.int .i64 0), rkV (.int .i64 (cellB r 2 0)), rkV (.agg #[.int .i64 r.x, .int .i64 r.y, .int .i64 r.w, .slice a4 r.r.length k4]), rkV (.int .i64 0), rkV (.int .i64 1), rkV (.int .i64 1), rkV (.int .i64 0), rkV (.int .i64 0), rkV (.int .i64 1), rkV (.int .i64 (cellB r 2 3)), rkV (.int .i64 (cellB r 2 0 + cellB r 2 3)), rkL [cellB r 2 0 + cellB r 2 3]] _ rfl (by kernel_rfl) (by simp) ?_ ?_
            · intro i o ho hi hi2 u g ww hbw hu2 hd
              replace hu2 : u 19 = .slice s7 n7 k7 := hu2
              have hall : Below w.heap.size w ww := hA3.trans (hbw.mono (by omega))
              have hlow : w.heap.size ≤ ww.heap.size := hall.size
              obtain ⟨hcl, hfr⟩ := bcell hbw
              have y_z0 := (hcl _ _ (by omega)).trans z0
              have y_z1 := (hcl _ _ (by omega)).trans z1
              have y_z2 := (hcl _ _ (by omega)).trans z2
              have y_z3 := (hcl _ _ (by omega)).trans z3
              clear hcl hfr
              rcases i with _ | _ | _ | _ | _ | _ | _ | _ | _ | _ | _ | _ | _ | _ | _ | _ | _ | _ | _ | _ | i
              all_goals try obtain rfl := Option.some.inj ho
              all_goals try simp only [putAll, fillL]
              · rw [hu2]
                go_wp2
                exact ⟨_, by simp only [putAll, fillL, hu2] <;> rfl, kept0 (Below.refl _ _), rfl⟩
              · go_wp2
                exact ⟨_, by simp only [putAll, fillL, hu2] <;> rfl, kept0 (Below.refl _ _), rfl⟩
              · go_wp2
                exact ⟨_, by simp only [putAll, fillL, hu2] <;> rfl, kept0 (Below.refl _ _), rfl⟩
              · go_wp2
                exact ⟨_, by simp only [putAll, fillL, hu2] <;> rfl, kept0 (Below.refl _ _), rfl⟩
              · have e2 : u 2 = .int .i64 0 := hd 2 (by decide)
                rw [e2]
                have e3 : u 3 = .int .i64 1 := hd 3 (by decide)
                rw [e3]
                go_wp2
                exact ⟨_, by simp only [putAll, fillL, hu2, e2, e3] <;> rfl, kept0 (Below.refl _ _), rfl⟩
              · go_wp2
                exact ⟨_, by simp only [putAll, fillL, hu2] <;> rfl, kept0 (Below.refl _ _), rfl⟩
              · go_wp2
                exact ⟨_, by simp only [putAll, fillL, hu2] <;> rfl, kept0 (Below.refl _ _), rfl⟩
              · have e1 : u 1 = .agg #[.int .i64 r.x, .int .i64 r.y, .int .i64 r.w, .slice a4 r.r.length k4] := hd 1 (by decide)
                rw [e1]
                have e4 : u 4 = .int .i64 1 := hd 4 (by decide)
                rw [e4]
                have e5 : u 5 = .int .i64 0 := hd 5 (by decide)
                rw [e5]
                have e6 : u 6 = .int .i64 0 := hd 6 (by decide)
                rw [e6]
                go_wp2_with fail
                refine (c_at _ r 1 0 0 0 2 _ (h2.below hall) hyy.out (by decide) (by rw [hlen.out]; decide) (by rw [show 1 * 2 + 0 = 2 from rfl, (hcl4.out 2 (by decide)).1]; decide) (by decide)).mono ?_
                rintro e wn ⟨rfl, hbn⟩
                go_wp2
                exact ⟨_, by simp only [putAll, fillL, hu2, e1, e4, e5, e6] <;> rfl, kept0 hbn, rfl⟩
              · go_wp2
                exact ⟨_, by simp only [putAll, fillL, hu2] <;> rfl, kept0 (Below.refl _ _), rfl⟩
              · go_wp2
                exact ⟨_, by simp only [putAll, fillL, hu2] <;> rfl, kept0 (Below.refl _ _), rfl⟩
              · go_wp2
                exact ⟨_, by simp only [putAll, fillL, hu2] <;> rfl, kept0 (Below.refl _ _), rfl⟩
              · have e9 : u 9 = .int .i64 0 := hd 9 (by decide)
                rw [e9]
                have e10 : u 10 = .int .i64 1 := hd 10 (by decide)
                rw [e10]
                go_wp2
                exact ⟨_, by simp only [putAll, fillL, hu2, e9, e10] <;> rfl, kept0 (Below.refl _ _), rfl⟩
              · go_wp2
                exact ⟨_, by simp only [putAll, fillL, hu2] <;> rfl, kept0 (Below.refl _ _), rfl⟩
              · go_wp2
                exact ⟨_, by simp only [putAll, fillL, hu2] <;> rfl, kept0 (Below.refl _ _), rfl⟩
              · have e13 : u 13 = .int .i64 0 := hd 13 (by decide)
                rw [e13]
                go_wp2
                exact ⟨_, by simp only [putAll, fillL, hu2, e13] <;> rfl, kept0 (Below.refl _ _), rfl⟩
              · have e8 : u 8 = .agg #[.int .i64 r.x, .int .i64 r.y, .int .i64 r.w, .slice a4 r.r.length k4] := hd 8 (by decide)
                rw [e8]
                have e11 : u 11 = .int .i64 1 := hd 11 (by decide)
                rw [e11]
                have e12 : u 12 = .int .i64 0 := hd 12 (by decide)
                rw [e12]
                have e14 : u 14 = .int .i64 1 := hd 14 (by decide)
                rw [e14]
                go_wp2_with fail
                refine (c_at _ r 1 0 1 1 2 _ (h2.below hall) hyy.out (by decide) (by rw [hlen.out]; decide) (by rw [show 1 * 2 + 0 = 2 from rfl, (hcl4.out 2 (by decide)).1]; decide) (by decide)).mono ?_
                rintro e wn ⟨rfl, hbn⟩
                go_wp2
                exact ⟨_, by simp only [putAll, fillL, hu2, e8, e11, e12, e14] <;> rfl, kept0 hbn, rfl⟩
              · have e7 : u 7 = .int .i64 (cellB r 2 0) := hd 7 (by decide)
                rw [e7]
                have e15 : u 15 = .int .i64 (cellB r 2 3) := hd 15 (by decide)
                rw [e15]
                go_wp2
                exact ⟨_, by simp only [putAll, fillL, hu2, e7, e15] <;> rfl, kept0 (Below.refl _ _), rfl⟩
              · have e16 : u 16 = .int .i64 (cellB r 2 0 + cellB r 2 3) := hd 16 (by decide)
                rw [e16]
                go_wp2
                exact ⟨_, by simp only [putAll, fillL, hu2, e16] <;> rfl, kept0 ((Below.refl _ _).alloc (Nat.le_refl _) _), own_nums ww w.heap.size [cellB r 2 0 + cellB r 2 3] _ 1 rfl rfl hlow (by simp)⟩
              · exact absurd rfl hi
              · exact absurd rfl hi2
              · simp at ho
            · intro u g w5 hbw hu2 hR hAp
              have R17 : OwnF w5 w.heap.size (InI (g 17)) (u 17) [cellB r 2 0 + cellB r 2 3] := hR 17 (by decide) (by decide) (by decide)
              have e0 : u 0 = .slice s7 n7 k7 := hR 0 (by decide) (by decide) (by decide)
              have rd := R17.rd
              obtain ⟨p17, q17, e17, -⟩ := id rd.out
              replace hu2 : u 19 = .slice s7 n7 k7 := hu2
              have hown5 := hown3.below hbw
              have hB5 := hB3.trans (hbw.mono (by omega))
              have hsz5 := hbw.size
              clear hR hAp R17 z0 z1 z2 z3 hbw hown3 hB3 hA3
              simp only [putAll, fillL]
              rw [hu2, e17, e0]
              rw [e17] at rd
              refine wp_append_intsG w5 rfl (.tmp 31) (.tmp 48) rfl (w.heap.size + 1) _ _ rfl hown5 _ [cellB r 2 0 + cellB r 2 3] rfl rd (by simp) (by rw [mapR_len]; simp) (by omega) ?_
              intro v' w6 h6 hgr hne6 hblk
              rw [← hq.out] at h6
              replace h6 : OwnI w6 (w.heap.size + 1) v' (mapR (gV r) (2 * 2 + (0 + 1))) := by rw [show 2 * 2 + (0 + 1) = 4 + 1 from rfl, mapR_succ]; exact h6
              have hB6 := hB5.trans ((grown_kept hgr).below (fun g e => (OwnS.lt hown5 g e).1) (by omega))
              clear hblk hgr hB5 hown5
              go_wp2
              go_roundw
              case rel => first | exact ⟨0 + 1, by omega, by go_num, h6, hB6⟩ | ((repeat apply Exists.intro); exact ⟨⟨0 + 1, by decide, rfl, h6, hB6⟩, rfl⟩)
              case measure => simp [intOf]
          · skip
            have hca := hcb.out 5 1
            have hcc := hcb.out 5 2
            rw [show (gA 5).1 = 3 from rfl] at hca hcc
            have hq : Hid (gV r 5 = cellB r 3 1 + cellB r 3 2) := Lib.hid (gV_eq r 5 (by decide))
            obtain ⟨⟨z0, z1, z2, z3⟩, -⟩ := blk4 ((hB3.block _ (by omega)).trans pB)
            obtain ⟨s7, n7, k7, rfl⟩ := (show ∃ a n c, _ = Value.slice a n c from by obtain ⟨a, c, e, -⟩ := hown3.ints.out; exact ⟨_, _, _, e⟩)
            have hsz3 := hB3.size
            simp only [World.size_alloc] at hsz3
            have hA3 := hA.trans (hB3.mono (by omega))
            go_wp2_with fail
            refine wp_region_rkt (by kernel_rfl) [none, none, none, none, some 19, none, none, none, none, none, none, none, none, none, none, none, none, none, none, none, none, none, none, none, none, none, none, none, none, none, none, some 0, some 1, some 2, some 3, some 4, some 5, some 6, some 7, some 8, some 9, some 10, some 11, some 12, some 13, some 14, some 15, some 16, some 17, some 18] 18 19 (by kernel_rfl) (by kernel_rfl) (by kernel_rfl) _ _ rfl rfl 4 rfl w.heap.size [rkV (.slice s7 n7 k7), rkV (.agg #[.int .i64 r.x, .int .i64 r.y, .int .i64 r.w, .slice a4 r.r.length k4]), rkV (.int .i64 0), rkV (.int .i64 1), rkV (.int .i64 1), rkV (.int .i64 1), rkV (.int .i64 1), rkV (.int .i64 (cellB r 3 1)), rkV (.agg #[.int .i64 r.x, .int .i64 r.y, .int .i64 r.w, .slice a4 r.r.length k4]), rkV (.int .i64 0), rkV (.int .i64 1), rkV (.int .i64 1), rkV (.int .i64 1), rkV (.int .i64 1), rkV (.int .i64 0), rkV (.int .i64 (cellB r 3 2)), rkV (.int .i64 (cellB r 3 1 + cellB r 3 2)), rkL [cellB r 3 1 + cellB r 3 2]] _ rfl (by kernel_rfl) (by simp) ?_ ?_
            · intro i o ho hi hi2 u g ww hbw hu2 hd
              replace hu2 : u 19 = .slice s7 n7 k7 := hu2
              have hall : Below w.heap.size w ww := hA3.trans (hbw.mono (by omega))
              have hlow : w.heap.size ≤ ww.heap.size := hall.size
              obtain ⟨hcl, hfr⟩ := bcell hbw
              have y_z0 := (hcl _ _ (by omega)).trans z0
              have y_z1 := (hcl _ _ (by omega)).trans z1
              have y_z2 := (hcl _ _ (by omega)).trans z2
              have y_z3 := (hcl _ _ (by omega)).trans z3
              clear hcl hfr
              rcases i with _ | _ | _ | _ | _ | _ | _ | _ | _ | _ | _ | _ | _ | _ | _ | _ | _ | _ | _ | _ | i
              all_goals try obtain rfl := Option.some.inj ho
              all_goals try simp only [putAll, fillL]
              · rw [hu2]
                go_wp2
                exact ⟨_, by simp only [putAll, fillL, hu2] <;> rfl, kept0 (Below.refl _ _), rfl⟩
              · go_wp2
                exact ⟨_, by simp only [putAll, fillL, hu2] <;> rfl, kept0 (Below.refl _ _), rfl⟩
              · go_wp2
                exact ⟨_, by simp only [putAll, fillL, hu2] <;> rfl, kept0 (Below.refl _ _), rfl⟩
              · go_wp2
                exact ⟨_, by simp only [putAll, fillL, hu2] <;> rfl, kept0 (Below.refl _ _), rfl⟩
              · have e2 : u 2 = .int .i64 0 := hd 2 (by decide)
                rw [e2]
                have e3 : u 3 = .int .i64 1 := hd 3 (by decide)
                rw [e3]
                go_wp2
                exact ⟨_, by simp only [putAll, fillL, hu2, e2, e3] <;> rfl, kept0 (Below.refl _ _), rfl⟩
              · go_wp2
                exact ⟨_, by simp only [putAll, fillL, hu2] <;> rfl, kept0 (Below.refl _ _), rfl⟩
              · go_wp2
                exact ⟨_, by simp only [putAll, fillL, hu2] <;> rfl, kept0 (Below.refl _ _), rfl⟩
              · have e1 : u 1 = .agg #[.int .i64 r.x, .int .i64 r.y, .int .i64 r.w, .slice a4 r.r.length k4] := hd 1 (by decide)
                rw [e1]
                have e4 : u 4 = .int .i64 1 := hd 4 (by decide)
                rw [e4]
                have e5 : u 5 = .int .i64 1 := hd 5 (by decide)
                rw [e5]
                have e6 : u 6 = .int .i64 1 := hd 6 (by decide)
                rw [e6]
                go_wp2_with fail
                refine (c_at _ r 1 1 0 1 2 _ (h2.below hall) hyy.out (by decide) (by rw [hlen.out]; decide) (by rw [show 1 * 2 + 1 = 3 from rfl, (hcl4.out 3 (by decide)).1]; decide) (by decide)).mono ?_
                rintro e wn ⟨rfl, hbn⟩
                go_wp2
                exact ⟨_, by simp only [putAll, fillL, hu2, e1, e4, e5, e6] <;> rfl, kept0 hbn, rfl⟩
              · go_wp2
                exact ⟨_, by simp only [putAll, fillL, hu2] <;> rfl, kept0 (Below.refl _ _), rfl⟩
              · go_wp2
                exact ⟨_, by simp only [putAll, fillL, hu2] <;> rfl, kept0 (Below.refl _ _), rfl⟩
              · go_wp2
                exact ⟨_, by simp only [putAll, fillL, hu2] <;> rfl, kept0 (Below.refl _ _), rfl⟩
              · have e9 : u 9 = .int .i64 0 := hd 9 (by decide)
                rw [e9]
                have e10 : u 10 = .int .i64 1 := hd 10 (by decide)
                rw [e10]
                go_wp2
                exact ⟨_, by simp only [putAll, fillL, hu2, e9, e10] <;> rfl, kept0 (Below.refl _ _), rfl⟩
              · go_wp2
                exact ⟨_, by simp only [putAll, fillL, hu2] <;> rfl, kept0 (Below.refl _ _), rfl⟩
              · go_wp2
                exact ⟨_, by simp only [putAll, fillL, hu2] <;> rfl, kept0 (Below.refl _ _), rfl⟩
              · have e13 : u 13 = .int .i64 1 := hd 13 (by decide)
                rw [e13]
                go_wp2
                exact ⟨_, by simp only [putAll, fillL, hu2, e13] <;> rfl, kept0 (Below.refl _ _), rfl⟩
              · have e8 : u 8 = .agg #[.int .i64 r.x, .int .i64 r.y, .int .i64 r.w, .slice a4 r.r.length k4] := hd 8 (by decide)
                rw [e8]
                have e11 : u 11 = .int .i64 1 := hd 11 (by decide)
                rw [e11]
                have e12 : u 12 = .int .i64 1 := hd 12 (by decide)
                rw [e12]
                have e14 : u 14 = .int .i64 0 := hd 14 (by decide)
                rw [e14]
                go_wp2_with fail
                refine (c_at _ r 1 1 1 0 2 _ (h2.below hall) hyy.out (by decide) (by rw [hlen.out]; decide) (by rw [show 1 * 2 + 1 = 3 from rfl, (hcl4.out 3 (by decide)).1]; decide) (by decide)).mono ?_
                rintro e wn ⟨rfl, hbn⟩
                go_wp2
                exact ⟨_, by simp only [putAll, fillL, hu2, e8, e11, e12, e14] <;> rfl, kept0 hbn, rfl⟩
              · have e7 : u 7 = .int .i64 (cellB r 3 1) := hd 7 (by decide)
                rw [e7]
                have e15 : u 15 = .int .i64 (cellB r 3 2) := hd 15 (by decide)
                rw [e15]
                go_wp2
                exact ⟨_, by simp only [putAll, fillL, hu2, e7, e15] <;> rfl, kept0 (Below.refl _ _), rfl⟩
              · have e16 : u 16 = .int .i64 (cellB r 3 1 + cellB r 3 2) := hd 16 (by decide)
                rw [e16]
                go_wp2
                exact ⟨_, by simp only [putAll, fillL, hu2, e16] <;> rfl, kept0 ((Below.refl _ _).alloc (Nat.le_refl _) _), own_nums ww w.heap.size [cellB r 3 1 + cellB r 3 2] _ 1 rfl rfl hlow (by simp)⟩
              · exact absurd rfl hi
              · exact absurd rfl hi2
              · simp at ho
            · intro u g w5 hbw hu2 hR hAp
              have R17 : OwnF w5 w.heap.size (InI (g 17)) (u 17) [cellB r 3 1 + cellB r 3 2] := hR 17 (by decide) (by decide) (by decide)
              have e0 : u 0 = .slice s7 n7 k7 := hR 0 (by decide) (by decide) (by decide)
              have rd := R17.rd
              obtain ⟨p17, q17, e17, -⟩ := id rd.out
              replace hu2 : u 19 = .slice s7 n7 k7 := hu2
              have hown5 := hown3.below hbw
              have hB5 := hB3.trans (hbw.mono (by omega))
              have hsz5 := hbw.size
              clear hR hAp R17 z0 z1 z2 z3 hbw hown3 hB3 hA3
              simp only [putAll, fillL]
              rw [hu2, e17, e0]
              rw [e17] at rd
              refine wp_append_intsG w5 rfl (.tmp 31) (.tmp 48) rfl (w.heap.size + 1) _ _ rfl hown5 _ [cellB r 3 1 + cellB r 3 2] rfl rd (by simp) (by rw [mapR_len]; simp) (by omega) ?_
              intro v' w6 h6 hgr hne6 hblk
              rw [← hq.out] at h6
              replace h6 : OwnI w6 (w.heap.size + 1) v' (mapR (gV r) (2 * 2 + (1 + 1))) := by rw [show 2 * 2 + (1 + 1) = 5 + 1 from rfl, mapR_succ]; exact h6
              have hB6 := hB5.trans ((grown_kept hgr).below (fun g e => (OwnS.lt hown5 g e).1) (by omega))
              clear hblk hgr hB5 hown5
              go_wp2
              go_roundw
              case rel => first | exact ⟨1 + 1, by omega, by go_num, h6, hB6⟩ | ((repeat apply Exists.intro); exact ⟨⟨1 + 1, by decide, rfl, h6, hB6⟩, rfl⟩)
              case measure => simp [intOf]
          · go_wp2
            go_roundw
            case rel => exact ⟨2 + 1, by omega, by go_num, hown3, hB3⟩
            case measure => simp [intOf]
      · skip
        go_wp2_with fail
        go_loopw [4, 21] (fun v j wr => ∃ i : Nat, i ≤ 2 ∧ j = .int .i64 i ∧ OwnI wr (w.heap.size + 1) v (mapR (gV r) (2 * 3 + i)) ∧ Below (w.heap.size + 1) (w.alloc (.cells #[.int .i64 r.x, .int .i64 r.y, .int .i64 r.w, .slice a4 r.r.length k4] 50)) wr) (fun _ j _ => 2 - (intOf j).toNat)
        case atStart => exact ⟨0, by omega, rfl, hown, hB⟩
        case round =>
          clear hown hB
          obtain ⟨i, hi, rfl, hown3, hB3⟩ := hrel
          have hi3 : i = 0 ∨ i = 1 ∨ i = 2 := by omega
          rcases hi3 with rfl | rfl | rfl
          · skip
            have hca := hcb.out 6 0
            have hcc := hcb.out 6 3
            rw [show (gA 6).1 = 0 from rfl] at hca hcc
            have hq : Hid (gV r 6 = cellB r 0 0 + cellB r 0 3) := Lib.hid (gV_eq r 6 (by decide))
            obtain ⟨⟨z0, z1, z2, z3⟩, -⟩ := blk4 ((hB3.block _ (by omega)).trans pB)
            obtain ⟨s7, n7, k7, rfl⟩ := (show ∃ a n c, _ = Value.slice a n c from by obtain ⟨a, c, e, -⟩ := hown3.ints.out; exact ⟨_, _, _, e⟩)
            have hsz3 := hB3.size
            simp only [World.size_alloc] at hsz3
            have hA3 := hA.trans (hB3.mono (by omega))
            go_wp2_with fail
            refine wp_region_rkt (by kernel_rfl) [none, none, none, none, some 19, none, none, none, none, none, none, none, none, none, none, none, none, none, none, none, none, none, none, none, none, none, none, none, none, none, none, some 0, some 1, some 2, some 3, some 4, some 5, some 6, some 7, some 8, some 9, some 10, some 11, some 12, some 13, some 14, some 15, some 16, some 17, some 18] 18 19 (by kernel_rfl) (by kernel_rfl) (by kernel_rfl) _ _ rfl rfl 4 rfl w.heap.size [rkV (.slice s7 n7 k7), rkV (.agg #[.int .i64 r.x, .int .i64 r.y, .int .i64 r.w, .slice a4 r.r.length k4]), rkV (.int .i64 1), rkV (.int .i64 1), rkV (.int .i64 0), rkV (.int .i64 0), rkV (.int .i64 0), rkV (.int .i64 (cellB r 0 0)), rkV (.agg #[.int .i64 r.x, .int .i64 r.y, .int .i64 r.w, .slice a4 r.r.length k4]), rkV (.int .i64 1), rkV (.int .i64 1), rkV (.int .i64 0), rkV (.int .i64 0), rkV (.int .i64 0), rkV (.int .i64 1), rkV (.int .i64 (cellB r 0 3)), rkV (.int .i64 (cellB r 0 0 + cellB r 0 3)), rkL [cellB r 0 0 + cellB r 0 3]] _ rfl (by kernel_rfl) (by simp) ?_ ?_
            · intro i o ho hi hi2 u g ww hbw hu2 hd
              replace hu2 : u 19 = .slice s7 n7 k7 := hu2
              have hall : Below w.heap.size w ww := hA3.trans (hbw.mono (by omega))
              have hlow : w.heap.size ≤ ww.heap.size := hall.size
              obtain ⟨hcl, hfr⟩ := bcell hbw
              have y_z0 := (hcl _ _ (by omega)).trans z0
              have y_z1 := (hcl _ _ (by omega)).trans z1
              have y_z2 := (hcl _ _ (by omega)).trans z2
              have y_z3 := (hcl _ _ (by omega)).trans z3
              clear hcl hfr
              rcases i with _ | _ | _ | _ | _ | _ | _ | _ | _ | _ | _ | _ | _ | _ | _ | _ | _ | _ | _ | _ | i
              all_goals try obtain rfl := Option.some.inj ho
              all_goals try simp only [putAll, fillL]
              · rw [hu2]
                go_wp2
                exact ⟨_, by simp only [putAll, fillL, hu2] <;> rfl, kept0 (Below.refl _ _), rfl⟩
              · go_wp2
                exact ⟨_, by simp only [putAll, fillL, hu2] <;> rfl, kept0 (Below.refl _ _), rfl⟩
              · go_wp2
                exact ⟨_, by simp only [putAll, fillL, hu2] <;> rfl, kept0 (Below.refl _ _), rfl⟩
              · go_wp2
                exact ⟨_, by simp only [putAll, fillL, hu2] <;> rfl, kept0 (Below.refl _ _), rfl⟩
              · have e2 : u 2 = .int .i64 1 := hd 2 (by decide)
                rw [e2]
                have e3 : u 3 = .int .i64 1 := hd 3 (by decide)
                rw [e3]
                go_wp2
                exact ⟨_, by simp only [putAll, fillL, hu2, e2, e3] <;> rfl, kept0 (Below.refl _ _), rfl⟩
              · go_wp2
                exact ⟨_, by simp only [putAll, fillL, hu2] <;> rfl, kept0 (Below.refl _ _), rfl⟩
              · go_wp2
                exact ⟨_, by simp only [putAll, fillL, hu2] <;> rfl, kept0 (Below.refl _ _), rfl⟩
              · have e1 : u 1 = .agg #[.int .i64 r.x, .int .i64 r.y, .int .i64 r.w, .slice a4 r.r.length k4] := hd 1 (by decide)
                rw [e1]
                have e4 : u 4 = .int .i64 0 := hd 4 (by decide)
                rw [e4]
                have e5 : u 5 = .int .i64 0 := hd 5 (by decide)
                rw [e5]
                have e6 : u 6 = .int .i64 0 := hd 6 (by decide)
                rw [e6]
                go_wp2_with fail
                refine (c_at _ r 0 0 0 0 2 _ (h2.below hall) hyy.out (by decide) (by rw [hlen.out]; decide) (by rw [show 0 * 2 + 0 = 0 from rfl, (hcl4.out 0 (by decide)).1]; decide) (by decide)).mono ?_
                rintro e wn ⟨rfl, hbn⟩
                go_wp2
                exact ⟨_, by simp only [putAll, fillL, hu2, e1, e4, e5, e6] <;> rfl, kept0 hbn, rfl⟩
              · go_wp2
                exact ⟨_, by simp only [putAll, fillL, hu2] <;> rfl, kept0 (Below.refl _ _), rfl⟩
              · go_wp2
                exact ⟨_, by simp only [putAll, fillL, hu2] <;> rfl, kept0 (Below.refl _ _), rfl⟩
              · go_wp2
                exact ⟨_, by simp only [putAll, fillL, hu2] <;> rfl, kept0 (Below.refl _ _), rfl⟩
              · have e9 : u 9 = .int .i64 1 := hd 9 (by decide)
                rw [e9]
                have e10 : u 10 = .int .i64 1 := hd 10 (by decide)
                rw [e10]
                go_wp2
                exact ⟨_, by simp only [putAll, fillL, hu2, e9, e10] <;> rfl, kept0 (Below.refl _ _), rfl⟩
              · go_wp2
                exact ⟨_, by simp only [putAll, fillL, hu2] <;> rfl, kept0 (Below.refl _ _), rfl⟩
              · go_wp2
                exact ⟨_, by simp only [putAll, fillL, hu2] <;> rfl, kept0 (Below.refl _ _), rfl⟩
              · have e13 : u 13 = .int .i64 0 := hd 13 (by decide)
                rw [e13]
                go_wp2
                exact ⟨_, by simp only [putAll, fillL, hu2, e13] <;> rfl, kept0 (Below.refl _ _), rfl⟩
              · have e8 : u 8 = .agg #[.int .i64 r.x, .int .i64 r.y, .int .i64 r.w, .slice a4 r.r.length k4] := hd 8 (by decide)
                rw [e8]
                have e11 : u 11 = .int .i64 0 := hd 11 (by decide)
                rw [e11]
                have e12 : u 12 = .int .i64 0 := hd 12 (by decide)
                rw [e12]
                have e14 : u 14 = .int .i64 1 := hd 14 (by decide)
                rw [e14]
                go_wp2_with fail
                refine (c_at _ r 0 0 1 1 2 _ (h2.below hall) hyy.out (by decide) (by rw [hlen.out]; decide) (by rw [show 0 * 2 + 0 = 0 from rfl, (hcl4.out 0 (by decide)).1]; decide) (by decide)).mono ?_
                rintro e wn ⟨rfl, hbn⟩
                go_wp2
                exact ⟨_, by simp only [putAll, fillL, hu2, e8, e11, e12, e14] <;> rfl, kept0 hbn, rfl⟩
              · have e7 : u 7 = .int .i64 (cellB r 0 0) := hd 7 (by decide)
                rw [e7]
                have e15 : u 15 = .int .i64 (cellB r 0 3) := hd 15 (by decide)
                rw [e15]
                go_wp2
                exact ⟨_, by simp only [putAll, fillL, hu2, e7, e15] <;> rfl, kept0 (Below.refl _ _), rfl⟩
              · have e16 : u 16 = .int .i64 (cellB r 0 0 + cellB r 0 3) := hd 16 (by decide)
                rw [e16]
                go_wp2
                exact ⟨_, by simp only [putAll, fillL, hu2, e16] <;> rfl, kept0 ((Below.refl _ _).alloc (Nat.le_refl _) _), own_nums ww w.heap.size [cellB r 0 0 + cellB r 0 3] _ 1 rfl rfl hlow (by simp)⟩
              · exact absurd rfl hi
              · exact absurd rfl hi2
              · simp at ho
            · intro u g w5 hbw hu2 hR hAp
              have R17 : OwnF w5 w.heap.size (InI (g 17)) (u 17) [cellB r 0 0 + cellB r 0 3] := hR 17 (by decide) (by decide) (by decide)
              have e0 : u 0 = .slice s7 n7 k7 := hR 0 (by decide) (by decide) (by decide)
              have rd := R17.rd
              obtain ⟨p17, q17, e17, -⟩ := id rd.out
              replace hu2 : u 19 = .slice s7 n7 k7 := hu2
              have hown5 := hown3.below hbw
              have hB5 := hB3.trans (hbw.mono (by omega))
              have hsz5 := hbw.size
              clear hR hAp R17 z0 z1 z2 z3 hbw hown3 hB3 hA3
              simp only [putAll, fillL]
              rw [hu2, e17, e0]
              rw [e17] at rd
              refine wp_append_intsG w5 rfl (.tmp 31) (.tmp 48) rfl (w.heap.size + 1) _ _ rfl hown5 _ [cellB r 0 0 + cellB r 0 3] rfl rd (by simp) (by rw [mapR_len]; simp) (by omega) ?_
              intro v' w6 h6 hgr hne6 hblk
              rw [← hq.out] at h6
              replace h6 : OwnI w6 (w.heap.size + 1) v' (mapR (gV r) (2 * 3 + (0 + 1))) := by rw [show 2 * 3 + (0 + 1) = 6 + 1 from rfl, mapR_succ]; exact h6
              have hB6 := hB5.trans ((grown_kept hgr).below (fun g e => (OwnS.lt hown5 g e).1) (by omega))
              clear hblk hgr hB5 hown5
              go_wp2
              go_roundw
              case rel => first | exact ⟨0 + 1, by omega, by go_num, h6, hB6⟩ | ((repeat apply Exists.intro); exact ⟨⟨0 + 1, by decide, rfl, h6, hB6⟩, rfl⟩)
              case measure => simp [intOf]
          · skip
            have hca := hcb.out 7 0
            have hcc := hcb.out 7 3
            rw [show (gA 7).1 = 1 from rfl] at hca hcc
            have hq : Hid (gV r 7 = cellB r 1 0 + cellB r 1 3) := Lib.hid (gV_eq r 7 (by decide))
            obtain ⟨⟨z0, z1, z2, z3⟩, -⟩ := blk4 ((hB3.block _ (by omega)).trans pB)
            obtain ⟨s7, n7, k7, rfl⟩ := (show ∃ a n c, _ = Value.slice a n c from by obtain ⟨a, c, e, -⟩ := hown3.ints.out; exact ⟨_, _, _, e⟩)
            have hsz3 := hB3.size
            simp only [World.size_alloc] at hsz3
            have hA3 := hA.trans (hB3.mono (by omega))
            go_wp2_with fail
            refine wp_region_rkt (by kernel_rfl) [none, none, none, none, some 19, none, none, none, none, none, none, none, none, none, none, none, none, none, none, none, none, none, none, none, none, none, none, none, none, none, none, some 0, some 1, some 2, some 3, some 4, some 5, some 6, some 7, some 8, some 9, some 10, some 11, some 12, some 13, some 14, some 15, some 16, some 17, some 18] 18 19 (by kernel_rfl) (by kernel_rfl) (by kernel_rfl) _ _ rfl rfl 4 rfl w.heap.size [rkV (.slice s7 n7 k7), rkV (.agg #[.int .i64 r.x, .int .i64 r.y, .int .i64 r.w, .slice a4 r.r.length k4]), rkV (.int .i64 1), rkV (.int .i64 1), rkV (.int .i64 0), rkV (.int .i64 1), rkV (.int .i64 0), rkV (.int .i64 (cellB r 1 0)), rkV (.agg #[.int .i64 r.x, .int .i64 r.y, .int .i64 r.w, .slice a4 r.r.length k4]), rkV (.int .i64 1), rkV (.int .i64 1), rkV (.int .i64 0), rkV (.int .i64 1), rkV (.int .i64 0), rkV (.int .i64 1), rkV (.int .i64 (cellB r 1 3)), rkV (.int .i64 (cellB r 1 0 + cellB r 1 3)), rkL [cellB r 1 0 + cellB r 1 3]] _ rfl (by kernel_rfl) (by simp) ?_ ?_
            · intro i o ho hi hi2 u g ww hbw hu2 hd
              replace hu2 : u 19 = .slice s7 n7 k7 := hu2
              have hall : Below w.heap.size w ww := hA3.trans (hbw.mono (by omega))
              have hlow : w.heap.size ≤ ww.heap.size := hall.size
              obtain ⟨hcl, hfr⟩ := bcell hbw
              have y_z0 := (hcl _ _ (by omega)).trans z0
              have y_z1 := (hcl _ _ (by omega)).trans z1
              have y_z2 := (hcl _ _ (by omega)).trans z2
              have y_z3 := (hcl _ _ (by omega)).trans z3
              clear hcl hfr
              rcases i with _ | _ | _ | _ | _ | _ | _ | _ | _ | _ | _ | _ | _ | _ | _ | _ | _ | _ | _ | _ | i
              all_goals try obtain rfl := Option.some.inj ho
              all_goals try simp only [putAll, fillL]
              · rw [hu2]
                go_wp2
                exact ⟨_, by simp only [putAll, fillL, hu2] <;> rfl, kept0 (Below.refl _ _), rfl⟩
              · go_wp2
                exact ⟨_, by simp only [putAll, fillL, hu2] <;> rfl, kept0 (Below.refl _ _), rfl⟩
              · go_wp2
                exact ⟨_, by simp only [putAll, fillL, hu2] <;> rfl, kept0 (Below.refl _ _), rfl⟩
              · go_wp2
                exact ⟨_, by simp only [putAll, fillL, hu2] <;> rfl, kept0 (Below.refl _ _), rfl⟩
              · have e2 : u 2 = .int .i64 1 := hd 2 (by decide)
                rw [e2]
                have e3 : u 3 = .int .i64 1 := hd 3 (by decide)
                rw [e3]
                go_wp2
                exact ⟨_, by simp only [putAll, fillL, hu2, e2, e3] <;> rfl, kept0 (Below.refl _ _), rfl⟩
              · go_wp2
                exact ⟨_, by simp only [putAll, fillL, hu2] <;> rfl, kept0 (Below.refl _ _), rfl⟩
              · go_wp2
                exact ⟨_, by simp only [putAll, fillL, hu2] <;> rfl, kept0 (Below.refl _ _), rfl⟩
              · have e1 : u 1 = .agg #[.int .i64 r.x, .int .i64 r.y, .int .i64 r.w, .slice a4 r.r.length k4] := hd 1 (by decide)
                rw [e1]
                have e4 : u 4 = .int .i64 0 := hd 4 (by decide)
                rw [e4]
                have e5 : u 5 = .int .i64 1 := hd 5 (by decide)
                rw [e5]
                have e6 : u 6 = .int .i64 0 := hd 6 (by decide)
                rw [e6]
                go_wp2_with fail
                refine (c_at _ r 0 1 0 0 2 _ (h2.below hall) hyy.out (by decide) (by rw [hlen.out]; decide) (by rw [show 0 * 2 + 1 = 1 from rfl, (hcl4.out 1 (by decide)).1]; decide) (by decide)).mono ?_
                rintro e wn ⟨rfl, hbn⟩
                go_wp2
                exact ⟨_, by simp only [putAll, fillL, hu2, e1, e4, e5, e6] <;> rfl, kept0 hbn, rfl⟩
              · go_wp2
                exact ⟨_, by simp only [putAll, fillL, hu2] <;> rfl, kept0 (Below.refl _ _), rfl⟩
              · go_wp2
                exact ⟨_, by simp only [putAll, fillL, hu2] <;> rfl, kept0 (Below.refl _ _), rfl⟩
              · go_wp2
                exact ⟨_, by simp only [putAll, fillL, hu2] <;> rfl, kept0 (Below.refl _ _), rfl⟩
              · have e9 : u 9 = .int .i64 1 := hd 9 (by decide)
                rw [e9]
                have e10 : u 10 = .int .i64 1 := hd 10 (by decide)
                rw [e10]
                go_wp2
                exact ⟨_, by simp only [putAll, fillL, hu2, e9, e10] <;> rfl, kept0 (Below.refl _ _), rfl⟩
              · go_wp2
                exact ⟨_, by simp only [putAll, fillL, hu2] <;> rfl, kept0 (Below.refl _ _), rfl⟩
              · go_wp2
                exact ⟨_, by simp only [putAll, fillL, hu2] <;> rfl, kept0 (Below.refl _ _), rfl⟩
              · have e13 : u 13 = .int .i64 0 := hd 13 (by decide)
                rw [e13]
                go_wp2
                exact ⟨_, by simp only [putAll, fillL, hu2, e13] <;> rfl, kept0 (Below.refl _ _), rfl⟩
              · have e8 : u 8 = .agg #[.int .i64 r.x, .int .i64 r.y, .int .i64 r.w, .slice a4 r.r.length k4] := hd 8 (by decide)
                rw [e8]
                have e11 : u 11 = .int .i64 0 := hd 11 (by decide)
                rw [e11]
                have e12 : u 12 = .int .i64 1 := hd 12 (by decide)
                rw [e12]
                have e14 : u 14 = .int .i64 1 := hd 14 (by decide)
                rw [e14]
                go_wp2_with fail
                refine (c_at _ r 0 1 1 1 2 _ (h2.below hall) hyy.out (by decide) (by rw [hlen.out]; decide) (by rw [show 0 * 2 + 1 = 1 from rfl, (hcl4.out 1 (by decide)).1]; decide) (by decide)).mono ?_
                rintro e wn ⟨rfl, hbn⟩
                go_wp2
                exact ⟨_, by simp only [putAll, fillL, hu2, e8, e11, e12, e14] <;> rfl, kept0 hbn, rfl⟩
              · have e7 : u 7 = .int .i64 (cellB r 1 0) := hd 7 (by decide)
                rw [e7]
                have e15 : u 15 = .int .i64 (cellB r 1 3) := hd 15 (by decide)
                rw [e15]
                go_wp2
                exact ⟨_, by simp only [putAll, fillL, hu2, e7, e15] <;> rfl, kept0 (Below.refl _ _), rfl⟩
              · have e16 : u 16 = .int .i64 (cellB r 1 0 + cellB r 1 3) := hd 16 (by decide)
                rw [e16]
                go_wp2
                exact ⟨_, by simp only [putAll, fillL, hu2, e16] <;> rfl, kept0 ((Below.refl _ _).alloc (Nat.le_refl _) _), own_nums ww w.heap.size [cellB r 1 0 + cellB r 1 3] _ 1 rfl rfl hlow (by simp)⟩
              · exact absurd rfl hi
              · exact absurd rfl hi2
              · simp at ho
            · intro u g w5 hbw hu2 hR hAp
              have R17 : OwnF w5 w.heap.size (InI (g 17)) (u 17) [cellB r 1 0 + cellB r 1 3] := hR 17 (by decide) (by decide) (by decide)
              have e0 : u 0 = .slice s7 n7 k7 := hR 0 (by decide) (by decide) (by decide)
              have rd := R17.rd
              obtain ⟨p17, q17, e17, -⟩ := id rd.out
              replace hu2 : u 19 = .slice s7 n7 k7 := hu2
              have hown5 := hown3.below hbw
              have hB5 := hB3.trans (hbw.mono (by omega))
              have hsz5 := hbw.size
              clear hR hAp R17 z0 z1 z2 z3 hbw hown3 hB3 hA3
              simp only [putAll, fillL]
              rw [hu2, e17, e0]
              rw [e17] at rd
              refine wp_append_intsG w5 rfl (.tmp 31) (.tmp 48) rfl (w.heap.size + 1) _ _ rfl hown5 _ [cellB r 1 0 + cellB r 1 3] rfl rd (by simp) (by rw [mapR_len]; simp) (by omega) ?_
              intro v' w6 h6 hgr hne6 hblk
              rw [← hq.out] at h6
              replace h6 : OwnI w6 (w.heap.size + 1) v' (mapR (gV r) (2 * 3 + (1 + 1))) := by rw [show 2 * 3 + (1 + 1) = 7 + 1 from rfl, mapR_succ]; exact h6
              have hB6 := hB5.trans ((grown_kept hgr).below (fun g e => (OwnS.lt hown5 g e).1) (by omega))
              clear hblk hgr hB5 hown5
              go_wp2
              go_roundw
              case rel => first | exact ⟨1 + 1, by omega, by go_num, h6, hB6⟩ | ((repeat apply Exists.intro); exact ⟨⟨1 + 1, by decide, rfl, h6, hB6⟩, rfl⟩)
              case measure => simp [intOf]
          · go_wp2
            go_roundw
            case rel => exact ⟨3 + 1, by omega, by go_num, hown3, hB3⟩
            case measure => simp [intOf]
      · go_wp2
        go_ret2
        exact ⟨_, rfl, by rw [hF.out]; exact hown.mono (by omega), hA.trans (hB.mono (by omega))⟩
end Go.Proofs.Ytjeaeninpmaoiaa
