/- What can be said first: the program's side; conditions: none. -/
import Derived.Test.YtpieaeokbblflaaFstS
namespace Go.Proofs.Ytpieaeokbblflaa
open Go.RowKit Go.Maps

theorem find_no {g : Nat → Bool} {l : List Nat} {k : Nat} (h : k < l.length) (h1 : (l.take k).find? g = none) (h2 : g l[k] = false) : (l.take (k + 1)).find? g = none := by
  rw [List.take_succ_eq_append_getElem h, List.find?_append, h1]
  simp [h2]
theorem find_yes {g : Nat → Bool} {l : List Nat} {k : Nat} (h : k < l.length) (h1 : (l.take k).find? g = none) (h2 : g l[k] = true) : l.find? g = some l[k] := by
  have e : l.find? g = (l.take k ++ l[k] :: l.drop (k + 1)).find? g := by rw [← List.drop_eq_getElem_cons h, List.take_append_drop]
  rw [e, List.find?_append, h1, List.find?_cons, h2]
  rfl


set_option maxRecDepth 100000 in
set_option maxHeartbeats 8000000 in
theorem c_first {t : List (List Int)} {v : Value} {B gb mb : Nat} (ht : taskB t = true) (R C : Nat) (hR0 : 0 < R) (hC0 : 0 < C) (hR1 : R < 16) (hC1 : C < 16) (hR2 : R < 2 ^ t.length) (hC2 : C < 2 ^ wid t) (w : World) (h : TalkM t v B gb mb w) :
    Calls Try.prog 82 #[.pointer (some ⟨gb, 0, none⟩), .agg #[.int .i64 (R : Int), .int .i64 (C : Int)]] w fun e w' => e = .returned (.tuple #[.int .i64 ((firstV t R C).1 : Int), .int .i64 ((firstV t R C).2 : Int)]) ∧ TalkM t v B gb mb w' ∧ KeptOff (fun k => k = mb) w w' := by
  obtain ⟨hn, hm, -, -⟩ := taskB_yes ht
  have hlt := h.lt
  have hA := (Below.refl w.heap.size w).alloc (Nat.le_refl _) (.cells #[.int .i64 (R : Int), .int .i64 (C : Int)] 81)
  have hbx0 : (w.alloc (.cells #[.int .i64 (R : Int), .int .i64 (C : Int)] 81)).heap[w.heap.size]? = some (.cells #[.int .i64 (R : Int), .int .i64 (C : Int)] 81 (0, 0)) := heap_alloc_at rfl
  have hTA := h.below hA
  have hKA : KeptOff (fun k => k = mb) w (w.alloc (.cells #[.int .i64 (R : Int), .int .i64 (C : Int)] 81)) := (kept0 hA).mono fun _ f => f.elim
  replace hR2 := Lib.hid hR2
  replace hC2 := Lib.hid hC2
  replace ht := Lib.hid ht
  replace h := Lib.hid h
  clear hA
  go_enter Try.func82, Try.ntmps82
  go_wp2_with fail
  go_loopw [9] (fun i wr => ∃ q : Nat, q ≤ 2 ∧ i = .int .i64 q ∧ ((1 ≤ q → Hid (fst0 t R C = none)) ∧ (2 ≤ q → Hid (fst1 t R C = none))) ∧ TalkM t v B gb mb wr ∧ KeptOff (fun k => k = mb) w wr ∧ wr.heap[w.heap.size]? = some (.cells #[.int .i64 (R : Int), .int .i64 (C : Int)] 81 (0, 0))) (fun i _ => 2 - (intOf i).toNat)
  case atStart => exact ⟨0, by omega, rfl, ⟨fun h => by omega, fun h => by omega⟩, hTA, hKA, hbx0⟩
  case round =>
    clear hTA hKA
    obtain ⟨q, hq, rfl, ⟨hq0, hq1⟩, hT, hK, hbx⟩ := hrel
    have hbl := (Array.getElem?_eq_some_iff.1 hbx).1
    obtain ⟨⟨y0, y1⟩, -⟩ := blk2 hbx
    rcases (by omega : q = 0 ∨ q = 1 ∨ q = 2) with rfl | rfl | rfl
    · skip
      have hls : ∀ x ∈ spl (t.length) R, 0 < x ∧ x < R ∧ x &&& R = x := fun x hx => spl_mem hx
      obtain ⟨ls, hlsd⟩ : ∃ z, z = spl (t.length) R := ⟨_, rfl⟩
      go_wp2_with fail
      refine (c_splits0 gb mb B v t R C hR1 hC1 (by omega) _ hT ht.out).mono ?_
      rintro e w3 ⟨vl, rfl, hvl, hb3⟩
      rw [← hlsd] at hvl hls
      replace hlsd := Lib.hid hlsd
      replace hls := Lib.hid hls
      replace hT := hT.below hb3
      replace hK := kept_then hK hb3
      replace hbx := blk_later hb3 hbx
      obtain ⟨al, cl, e3, hl3, -⟩ := hvl.ints.out
      rw [natL_len] at e3 hl3
      subst e3
      go_wp2_with fail
      go_loopw [17] (fun j wr => ∃ k : Nat, k ≤ ls.length ∧ j = .int .i64 k ∧ Hid ((ls.take k).find? (fun p => aft0 t R C p == need t R C) = none) ∧ TalkM t v B gb mb wr ∧ KeptOff (fun k => k = mb) w wr ∧ wr.heap[w.heap.size]? = some (.cells #[.int .i64 (R : Int), .int .i64 (C : Int)] 81 (0, 0)) ∧ OwnI wr (w.heap.size + 1) (.slice al ls.length cl) (natL ls)) (fun j _ => ls.length - (intOf j).toNat)
      case atStart => exact ⟨0, Nat.zero_le _, rfl, Lib.hid rfl, hT, hK, hbx, hvl.mono (by have := (Array.getElem?_eq_some_iff.1 hbx0).1; omega)⟩
      case round =>
        clear hT hK hbx hvl hb3
        obtain ⟨k, hkl, rfl, hf, hT, hK, hbx, hvl⟩ := hrel
        have hbl := (Array.getElem?_eq_some_iff.1 hbx).1
        by_cases hlt : k < ls.length
        · have hdk : decide ((k : Int) < (ls.length : Int)) = true := by simp; omega
          obtain ⟨bl, off, rfl, hb, hcell⟩ := hvl.ints.at k (by rw [natL_len]; exact hlt)
          obtain ⟨p, hp⟩ : ∃ p, p = ls[k] := ⟨_, rfl⟩
          rw [show (natL ls)[k]'(by rw [natL_len]; exact hlt) = (p : Int) by rw [hp]; simp [natL]] at hcell
          obtain ⟨p0, p1, p2⟩ := hls.out p (by rw [hp]; exact List.getElem_mem hlt)
          have n1 := fun w' h' => c_after0 (c_need ht.out v B gb mb (R + C)) R C p (by omega) hR0 hC0 hR1 hC1 hR2.out hC2.out p0 p1 p2 w' h'
          have n2 := c_need ht.out v B gb mb (R + C) R C (Nat.le_refl _) hR0 hC0 hR1 hC1 hR2.out hC2.out
          obtain ⟨nd, hnd⟩ : ∃ z, z = need t R C := ⟨_, rfl⟩
          obtain ⟨a, ha⟩ : ∃ a, a = aft0 t R C p := ⟨_, rfl⟩
          have hgd : (aft0 t R C ls[k] == need t R C) = (a == nd) := by rw [← hp, ← ha, ← hnd]
          rw [← hnd] at n2
          rw [show (1 + max _ _ : Nat) = a from ha.symm] at n1
          replace n1 := Lib.hid n1
          replace n2 := Lib.hid n2
          replace ha := Lib.hid ha
          replace hnd := Lib.hid hnd
          replace hp := Lib.hid hp
          replace hgd := Lib.hid hgd
          go_wp2_with fail
          have hT2 := hT.below (Below.refl _ _).drew
          have hK2 := kept_then hK (Below.refl _ _).drew
          have hbx2 := blk_later (Below.refl _ _).drew hbx
          have hvl2 := hvl.below (Below.refl _ _).drew
          clear hT hK hbx hvl hb hcell
          refine wp_region_vals (by kernel_rfl) [none, none, none, none, none, none, none, none, none, none, none, none, none, none, none, none, none, none, none, none, none, some 0, some 1, some 2, some 3, some 4, some 5, some 6, some 7, some 8] 8 (by kernel_rfl) (by kernel_rfl) (by kernel_rfl) _ rfl (fun ww => TalkM t v B gb mb ww ∧ KeptOff (fun k => k = mb) w ww ∧ ww.heap[w.heap.size]? = some (.cells #[.int .i64 (R : Int), .int .i64 (C : Int)] 81 (0, 0)) ∧ OwnI ww (w.heap.size + 1) (.slice (some ⟨bl, off, none⟩) ls.length cl) (natL ls)) (⟨hT2, hK2, hbx2, hvl2⟩) [.pointer (some ⟨gb, 0, none⟩), .agg #[.int .i64 (R : Int), .int .i64 (C : Int)], .int .i64 0, .int .i64 (p : Int), .int .i64 (a : Int), .pointer (some ⟨gb, 0, none⟩), .agg #[.int .i64 (R : Int), .int .i64 (C : Int)], .int .i64 (nd : Int)] ?_ ?_
          · intro i o ho hi u ww hI hd
            obtain ⟨iT, iK, iB, iV⟩ := id hI
            have il := (Array.getElem?_eq_some_iff.1 iB).1
            obtain ⟨⟨y0, y1⟩, -⟩ := blk2 iB
            replace hI := Lib.hid hI
            rcases i with _ | _ | _ | _ | _ | _ | _ | _ | _ | i
            all_goals try obtain rfl := Option.some.inj ho
            all_goals try simp only [putAll, fillL]
            · go_wp2
              exact ⟨rfl, hI.out⟩
            · go_wp2
              exact ⟨rfl, hI.out⟩
            · go_wp2
              exact ⟨rfl, hI.out⟩
            · go_wp2
              exact ⟨rfl, hI.out⟩
            · have e0 : u 0 = .pointer (some ⟨gb, 0, none⟩) := hd 0 (by decide)
              rw [e0]
              have e1 : u 1 = .agg #[.int .i64 (R : Int), .int .i64 (C : Int)] := hd 1 (by decide)
              rw [e1]
              have e2 : u 2 = .int .i64 0 := hd 2 (by decide)
              rw [e2]
              have e3 : u 3 = .int .i64 (p : Int) := hd 3 (by decide)
              rw [e3]
              go_wp2_with fail
              refine (n1.out _ iT).mono ?_
              rintro e wn ⟨rfl, jT, jK⟩
              have hN : Hid ((fun ww => TalkM t v B gb mb ww ∧ KeptOff (fun k => k = mb) w ww ∧ ww.heap[w.heap.size]? = some (.cells #[.int .i64 (R : Int), .int .i64 (C : Int)] 81 (0, 0)) ∧ OwnI ww (w.heap.size + 1) (.slice (some ⟨bl, off, none⟩) ls.length cl) (natL ls)) wn) := Lib.hid (⟨jT, iK.trans jK, (jK.block _ il (by omega)).trans iB, iV.off jK (fun g e f => by have h1 := OwnS.lt iV g e; omega)⟩)
              go_wp2
              exact ⟨by simp only [putAll, fillL, e0, e1, e2, e3] <;> rfl, hN.out⟩
            · go_wp2
              exact ⟨rfl, hI.out⟩
            · go_wp2
              exact ⟨rfl, hI.out⟩
            · have e5 : u 5 = .pointer (some ⟨gb, 0, none⟩) := hd 5 (by decide)
              rw [e5]
              have e6 : u 6 = .agg #[.int .i64 (R : Int), .int .i64 (C : Int)] := hd 6 (by decide)
              rw [e6]
              go_wp2_with fail
              refine (n2.out _ iT).mono ?_
              rintro e wn ⟨rfl, jT, jK⟩
              have hN : Hid ((fun ww => TalkM t v B gb mb ww ∧ KeptOff (fun k => k = mb) w ww ∧ ww.heap[w.heap.size]? = some (.cells #[.int .i64 (R : Int), .int .i64 (C : Int)] 81 (0, 0)) ∧ OwnI ww (w.heap.size + 1) (.slice (some ⟨bl, off, none⟩) ls.length cl) (natL ls)) wn) := Lib.hid (⟨jT, iK.trans jK, (jK.block _ il (by omega)).trans iB, iV.off jK (fun g e f => by have h1 := OwnS.lt iV g e; omega)⟩)
              go_wp2
              exact ⟨by simp only [putAll, fillL, e5, e6] <;> rfl, hN.out⟩
            · exact absurd rfl hi
            · simp at ho
          · intro u ww hI hV
            have e0 : u 0 = .pointer (some ⟨gb, 0, none⟩) := hV 0 (by decide) (by decide)
            have e1 : u 1 = .agg #[.int .i64 (R : Int), .int .i64 (C : Int)] := hV 1 (by decide) (by decide)
            have e2 : u 2 = .int .i64 0 := hV 2 (by decide) (by decide)
            have e3 : u 3 = .int .i64 (p : Int) := hV 3 (by decide) (by decide)
            have e4 : u 4 = .int .i64 (a : Int) := hV 4 (by decide) (by decide)
            have e5 : u 5 = .pointer (some ⟨gb, 0, none⟩) := hV 5 (by decide) (by decide)
            have e6 : u 6 = .agg #[.int .i64 (R : Int), .int .i64 (C : Int)] := hV 6 (by decide) (by decide)
            have e7 : u 7 = .int .i64 (nd : Int) := hV 7 (by decide) (by decide)
            simp only [putAll, fillL]
            rw [e0, e1, e2, e3, e4, e5, e6, e7]
            clear hV e0 e1 e2 e3 e4 e5 e6 e7
            try simp only [List.getElem_toArray, List.getElem_cons_succ, List.getElem_cons_zero]
            obtain ⟨hT, hK, hbx, hvl⟩ := hI
            clear hT2 hK2 hbx2 hvl2
            cases hq : (a == nd)
            · have hd : ((a : Int) == (nd : Int)) = false := by simp at hq ⊢; omega
              have hf2 := Lib.hid (find_no hlt hf.out (g := fun p => aft0 t R C p == need t R C) (by rw [hgd.out, hq]))
              replace hq := Lib.hid hq
              go_wp2
              go_roundw
              case rel => first | exact ⟨k + 1, by omega, by go_num, hf2, hT, hK, hbx, hvl⟩ | ((repeat apply Exists.intro); exact ⟨⟨k + 1, by omega, rfl, hf2, hT, hK, hbx, hvl⟩, rfl⟩)
              case measure => simp [intOf]; omega
            · have hd : ((a : Int) == (nd : Int)) = true := by simp at hq ⊢; omega
              have hf2 : ls.find? (fun p => aft0 t R C p == need t R C) = some p := by rw [hp.out]; exact find_yes hlt hf.out (g := fun p => aft0 t R C p == need t R C) (by rw [hgd.out, hq])
              have hV : Hid (firstV t R C = (0, p)) := Lib.hid (by
                have h0 : fst0 t R C = some p := by show List.find? _ (spl _ _) = _; rw [← hlsd.out]; exact hf2
                unfold firstV; rw [h0])
              replace hq := Lib.hid hq
              clear hf2
              go_wp2
              go_ret2
              exact ⟨by rw [hV.out]; rfl, hT, hK⟩
        · obtain rfl : k = ls.length := by omega
          have hN : Hid (fst0 t R C = none) := Lib.hid (by
            have h := hf.out
            rw [List.take_length, hlsd.out] at h
            exact h)
          go_wp2
          go_roundw
          case rel => first | exact ⟨0 + 1, by omega, by go_num, ⟨fun _ => by first | exact hN | exact hq0 (by omega), fun _ => by first | omega | exact hN⟩, hT, hK, hbx⟩ | ((repeat apply Exists.intro); exact ⟨⟨0 + 1, by omega, rfl, ⟨fun _ => by first | exact hN | exact hq0 (by omega), fun _ => by first | omega | exact hN⟩, hT, hK, hbx⟩, rfl⟩)
          case measure => simp [intOf]
    · skip
      have hls : ∀ x ∈ spl (wid t) C, 0 < x ∧ x < C ∧ x &&& C = x := fun x hx => spl_mem hx
      obtain ⟨ls, hlsd⟩ : ∃ z, z = spl (wid t) C := ⟨_, rfl⟩
      go_wp2_with fail
      refine (c_splits1 gb mb B v t R C hR1 hC1 (by omega) _ hT ht.out).mono ?_
      rintro e w3 ⟨vl, rfl, hvl, hb3⟩
      rw [← hlsd] at hvl hls
      replace hlsd := Lib.hid hlsd
      replace hls := Lib.hid hls
      replace hT := hT.below hb3
      replace hK := kept_then hK hb3
      replace hbx := blk_later hb3 hbx
      obtain ⟨al, cl, e3, hl3, -⟩ := hvl.ints.out
      rw [natL_len] at e3 hl3
      subst e3
      go_wp2_with fail
      go_loopw [17] (fun j wr => ∃ k : Nat, k ≤ ls.length ∧ j = .int .i64 k ∧ Hid ((ls.take k).find? (fun p => aft1 t R C p == need t R C) = none) ∧ TalkM t v B gb mb wr ∧ KeptOff (fun k => k = mb) w wr ∧ wr.heap[w.heap.size]? = some (.cells #[.int .i64 (R : Int), .int .i64 (C : Int)] 81 (0, 0)) ∧ OwnI wr (w.heap.size + 1) (.slice al ls.length cl) (natL ls)) (fun j _ => ls.length - (intOf j).toNat)
      case atStart => exact ⟨0, Nat.zero_le _, rfl, Lib.hid rfl, hT, hK, hbx, hvl.mono (by have := (Array.getElem?_eq_some_iff.1 hbx0).1; omega)⟩
      case round =>
        clear hT hK hbx hvl hb3
        obtain ⟨k, hkl, rfl, hf, hT, hK, hbx, hvl⟩ := hrel
        have hbl := (Array.getElem?_eq_some_iff.1 hbx).1
        by_cases hlt : k < ls.length
        · have hdk : decide ((k : Int) < (ls.length : Int)) = true := by simp; omega
          obtain ⟨bl, off, rfl, hb, hcell⟩ := hvl.ints.at k (by rw [natL_len]; exact hlt)
          obtain ⟨p, hp⟩ : ∃ p, p = ls[k] := ⟨_, rfl⟩
          rw [show (natL ls)[k]'(by rw [natL_len]; exact hlt) = (p : Int) by rw [hp]; simp [natL]] at hcell
          obtain ⟨p0, p1, p2⟩ := hls.out p (by rw [hp]; exact List.getElem_mem hlt)
          have n1 := fun w' h' => c_after1 (c_need ht.out v B gb mb (R + C)) R C p (by omega) hR0 hC0 hR1 hC1 hR2.out hC2.out p0 p1 p2 w' h'
          have n2 := c_need ht.out v B gb mb (R + C) R C (Nat.le_refl _) hR0 hC0 hR1 hC1 hR2.out hC2.out
          obtain ⟨nd, hnd⟩ : ∃ z, z = need t R C := ⟨_, rfl⟩
          obtain ⟨a, ha⟩ : ∃ a, a = aft1 t R C p := ⟨_, rfl⟩
          have hgd : (aft1 t R C ls[k] == need t R C) = (a == nd) := by rw [← hp, ← ha, ← hnd]
          rw [← hnd] at n2
          rw [show (1 + max _ _ : Nat) = a from ha.symm] at n1
          replace n1 := Lib.hid n1
          replace n2 := Lib.hid n2
          replace ha := Lib.hid ha
          replace hnd := Lib.hid hnd
          replace hp := Lib.hid hp
          replace hgd := Lib.hid hgd
          go_wp2_with fail
          have hT2 := hT.below (Below.refl _ _).drew
          have hK2 := kept_then hK (Below.refl _ _).drew
          have hbx2 := blk_later (Below.refl _ _).drew hbx
          have hvl2 := hvl.below (Below.refl _ _).drew
          clear hT hK hbx hvl hb hcell
          refine wp_region_vals (by kernel_rfl) [none, none, none, none, none, none, none, none, none, none, none, none, none, none, none, none, none, none, none, none, none, some 0, some 1, some 2, some 3, some 4, some 5, some 6, some 7, some 8] 8 (by kernel_rfl) (by kernel_rfl) (by kernel_rfl) _ rfl (fun ww => TalkM t v B gb mb ww ∧ KeptOff (fun k => k = mb) w ww ∧ ww.heap[w.heap.size]? = some (.cells #[.int .i64 (R : Int), .int .i64 (C : Int)] 81 (0, 0)) ∧ OwnI ww (w.heap.size + 1) (.slice (some ⟨bl, off, none⟩) ls.length cl) (natL ls)) (⟨hT2, hK2, hbx2, hvl2⟩) [.pointer (some ⟨gb, 0, none⟩), .agg #[.int .i64 (R : Int), .int .i64 (C : Int)], .int .i64 1, .int .i64 (p : Int), .int .i64 (a : Int), .pointer (some ⟨gb, 0, none⟩), .agg #[.int .i64 (R : Int), .int .i64 (C : Int)], .int .i64 (nd : Int)] ?_ ?_
          · intro i o ho hi u ww hI hd
            obtain ⟨iT, iK, iB, iV⟩ := id hI
            have il := (Array.getElem?_eq_some_iff.1 iB).1
            obtain ⟨⟨y0, y1⟩, -⟩ := blk2 iB
            replace hI := Lib.hid hI
            rcases i with _ | _ | _ | _ | _ | _ | _ | _ | _ | i
            all_goals try obtain rfl := Option.some.inj ho
            all_goals try simp only [putAll, fillL]
            · go_wp2
              exact ⟨rfl, hI.out⟩
            · go_wp2
              exact ⟨rfl, hI.out⟩
            · go_wp2
              exact ⟨rfl, hI.out⟩
            · go_wp2
              exact ⟨rfl, hI.out⟩
            · have e0 : u 0 = .pointer (some ⟨gb, 0, none⟩) := hd 0 (by decide)
              rw [e0]
              have e1 : u 1 = .agg #[.int .i64 (R : Int), .int .i64 (C : Int)] := hd 1 (by decide)
              rw [e1]
              have e2 : u 2 = .int .i64 1 := hd 2 (by decide)
              rw [e2]
              have e3 : u 3 = .int .i64 (p : Int) := hd 3 (by decide)
              rw [e3]
              go_wp2_with fail
              refine (n1.out _ iT).mono ?_
              rintro e wn ⟨rfl, jT, jK⟩
              have hN : Hid ((fun ww => TalkM t v B gb mb ww ∧ KeptOff (fun k => k = mb) w ww ∧ ww.heap[w.heap.size]? = some (.cells #[.int .i64 (R : Int), .int .i64 (C : Int)] 81 (0, 0)) ∧ OwnI ww (w.heap.size + 1) (.slice (some ⟨bl, off, none⟩) ls.length cl) (natL ls)) wn) := Lib.hid (⟨jT, iK.trans jK, (jK.block _ il (by omega)).trans iB, iV.off jK (fun g e f => by have h1 := OwnS.lt iV g e; omega)⟩)
              go_wp2
              exact ⟨by simp only [putAll, fillL, e0, e1, e2, e3] <;> rfl, hN.out⟩
            · go_wp2
              exact ⟨rfl, hI.out⟩
            · go_wp2
              exact ⟨rfl, hI.out⟩
            · have e5 : u 5 = .pointer (some ⟨gb, 0, none⟩) := hd 5 (by decide)
              rw [e5]
              have e6 : u 6 = .agg #[.int .i64 (R : Int), .int .i64 (C : Int)] := hd 6 (by decide)
              rw [e6]
              go_wp2_with fail
              refine (n2.out _ iT).mono ?_
              rintro e wn ⟨rfl, jT, jK⟩
              have hN : Hid ((fun ww => TalkM t v B gb mb ww ∧ KeptOff (fun k => k = mb) w ww ∧ ww.heap[w.heap.size]? = some (.cells #[.int .i64 (R : Int), .int .i64 (C : Int)] 81 (0, 0)) ∧ OwnI ww (w.heap.size + 1) (.slice (some ⟨bl, off, none⟩) ls.length cl) (natL ls)) wn) := Lib.hid (⟨jT, iK.trans jK, (jK.block _ il (by omega)).trans iB, iV.off jK (fun g e f => by have h1 := OwnS.lt iV g e; omega)⟩)
              go_wp2
              exact ⟨by simp only [putAll, fillL, e5, e6] <;> rfl, hN.out⟩
            · exact absurd rfl hi
            · simp at ho
          · intro u ww hI hV
            have e0 : u 0 = .pointer (some ⟨gb, 0, none⟩) := hV 0 (by decide) (by decide)
            have e1 : u 1 = .agg #[.int .i64 (R : Int), .int .i64 (C : Int)] := hV 1 (by decide) (by decide)
            have e2 : u 2 = .int .i64 1 := hV 2 (by decide) (by decide)
            have e3 : u 3 = .int .i64 (p : Int) := hV 3 (by decide) (by decide)
            have e4 : u 4 = .int .i64 (a : Int) := hV 4 (by decide) (by decide)
            have e5 : u 5 = .pointer (some ⟨gb, 0, none⟩) := hV 5 (by decide) (by decide)
            have e6 : u 6 = .agg #[.int .i64 (R : Int), .int .i64 (C : Int)] := hV 6 (by decide) (by decide)
            have e7 : u 7 = .int .i64 (nd : Int) := hV 7 (by decide) (by decide)
            simp only [putAll, fillL]
            rw [e0, e1, e2, e3, e4, e5, e6, e7]
            clear hV e0 e1 e2 e3 e4 e5 e6 e7
            try simp only [List.getElem_toArray, List.getElem_cons_succ, List.getElem_cons_zero]
            obtain ⟨hT, hK, hbx, hvl⟩ := hI
            clear hT2 hK2 hbx2 hvl2
            cases hq : (a == nd)
            · have hd : ((a : Int) == (nd : Int)) = false := by simp at hq ⊢; omega
              have hf2 := Lib.hid (find_no hlt hf.out (g := fun p => aft1 t R C p == need t R C) (by rw [hgd.out, hq]))
              replace hq := Lib.hid hq
              go_wp2
              go_roundw
              case rel => first | exact ⟨k + 1, by omega, by go_num, hf2, hT, hK, hbx, hvl⟩ | ((repeat apply Exists.intro); exact ⟨⟨k + 1, by omega, rfl, hf2, hT, hK, hbx, hvl⟩, rfl⟩)
              case measure => simp [intOf]; omega
            · have hd : ((a : Int) == (nd : Int)) = true := by simp at hq ⊢; omega
              have hf2 : ls.find? (fun p => aft1 t R C p == need t R C) = some p := by rw [hp.out]; exact find_yes hlt hf.out (g := fun p => aft1 t R C p == need t R C) (by rw [hgd.out, hq])
              have hV : Hid (firstV t R C = (1, p)) := Lib.hid (by
                have h0 : fst1 t R C = some p := by show List.find? _ (spl _ _) = _; rw [← hlsd.out]; exact hf2
                unfold firstV; rw [(hq0 (by omega)).out, h0])
              replace hq := Lib.hid hq
              clear hf2
              go_wp2
              go_ret2
              exact ⟨by rw [hV.out]; rfl, hT, hK⟩
        · obtain rfl : k = ls.length := by omega
          have hN : Hid (fst1 t R C = none) := Lib.hid (by
            have h := hf.out
            rw [List.take_length, hlsd.out] at h
            exact h)
          go_wp2
          go_roundw
          case rel => first | exact ⟨1 + 1, by omega, by go_num, ⟨fun _ => by first | exact hN | exact hq0 (by omega), fun _ => by first | omega | exact hN⟩, hT, hK, hbx⟩ | ((repeat apply Exists.intro); exact ⟨⟨1 + 1, by omega, rfl, ⟨fun _ => by first | exact hN | exact hq0 (by omega), fun _ => by first | omega | exact hN⟩, hT, hK, hbx⟩, rfl⟩)
          case measure => simp [intOf]
    · have hV : Hid (firstV t R C = (0, 0)) := Lib.hid (by unfold firstV; rw [(hq0 (by omega)).out, (hq1 (by omega)).out])
      go_wp2
      go_ret2
      exact ⟨by rw [hV.out]; rfl, hT, hK⟩
end Go.Proofs.Ytpieaeokbblflaa
