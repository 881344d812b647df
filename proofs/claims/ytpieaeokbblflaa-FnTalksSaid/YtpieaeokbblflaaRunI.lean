/- What a talk says and what is known at its end: the program's side; conditions: none. -/
import Derived.Test.YtpieaeokbblflaaRun
import Derived.Test.YtpieaeokbblflaaFree4
import Derived.Test.YtpieaeokbblflaaAppG
import Derived.Test.YtpieaeokbblflaaRk
namespace Go.Proofs.Ytpieaeokbblflaa
open Go.RowKit

/-- what the operations of the region that says a bit leave -/
def runRel (B s0 : Nat) (o : List Int) (bit : Int) (vals : Nat → Value) (y : Nat) (v : Value) (x : Nat × Nat) (u : Nat → Value) (w : World) : Prop :=
  match y with
  | 2 => v = .slice (some ⟨x.1, 0, none⟩) 1 1 ∧ w.heap[x.1]? = some (.cells #[.int .i64 bit] 3 (0, 0)) ∧ s0 ≤ x.1
  | 3 => OwnI w B v (o ++ [bit])
  | 11 => v = u 3
  | _ => v = vals y
theorem runRel_keep {B s0 : Nat} {o : List Int} {bit : Int} {vals : Nat → Value} {y y2 : Nat} {v u0 : Value} {x : Nat × Nat} {u : Nat → Value} {w w' : World} (hne : y2 ≠ y) (hbl : ∀ k, u0.ownBlock = some k → k < s0) (h : runRel B s0 o bit vals y v x u w)
    (hk : KeptOff (fun k => y2 = 3 ∧ u0.ownBlock = some k) w w') : runRel B s0 o bit vals y v x u w' := by
  unfold runRel at h ⊢
  split at h
  · exact ⟨h.1, (hk.block _ (Array.getElem?_eq_some_iff.1 h.2.1).1 (fun ⟨_, e⟩ => by have := hbl _ e; have := h.2.2; omega)).trans h.2.1, h.2.2⟩
  · exact OwnI.off h hk fun g _ ⟨e, _⟩ => hne e
  · exact h
  · exact h
theorem runRel_stab {B s0 : Nat} {o : List Int} {bit : Int} {vals : Nat → Value} {y : Nat} {v : Value} {x : Nat × Nat} {u u' : Nat → Value} {w : World} (he : y = 11 → u 3 = u' 3) (h : runRel B s0 o bit vals y v x u w) : runRel B s0 o bit vals y v x u' w := by
  unfold runRel at h ⊢
  split at h
  · exact h
  · exact h
  · rw [← he rfl]; exact h
  · exact h

set_option maxRecDepth 100000 in
set_option maxHeartbeats 4000000 in
theorem c_run (v : Value) (r : TalkD) (i j : Nat) (w : World) (h : TalkR w v r) (hok : RunOk r i j) :
    Calls Try.prog 106 #[v, .int .i64 i, .int .i64 j] w fun e w' => ∃ v', e = .returned (.tuple #[v', .int .i64 (runE r i j)]) ∧ OwnI w' w.heap.size v' (runL r i j) ∧ Below w.heap.size w w' := by
  obtain ⟨v1, v2, v3, rfl, hp, hs, hx⟩ := id h
  obtain ⟨a1, k1, rfl, l1, -⟩ := hp.out
  obtain ⟨a2, k2, rfl, l2⟩ := hs.out
  obtain ⟨a3, k3, rfl, l3⟩ := hx.out
  have hA := (Below.refl w.heap.size w).alloc (Nat.le_refl _) (.cells #[.slice a1 r.p.length k1, .slice a2 r.s.length k2, .slice a3 r.x.length k3] 38)
  have pB : (w.alloc (.cells #[.slice a1 r.p.length k1, .slice a2 r.s.length k2, .slice a3 r.x.length k3] 38)).heap[w.heap.size]? = some (.cells #[.slice a1 r.p.length k1, .slice a2 r.s.length k2, .slice a3 r.x.length k3] 38 (0, 0)) := heap_alloc_at rfl
  obtain ⟨n32, hsl, hxl, hR0⟩ := hok
  have hsl2 : r.s.length ≤ r.p.length ∧ r.p.length ≤ r.s.length := by omega
  have hxl2 : r.x.length ≤ r.p.length ∧ r.p.length ≤ r.x.length := by omega
  clear hsl hxl
  replace hR0 := Lib.hid hR0
  have hi0 := ix20
  have hi1 := ix21
  have hown0 := (by have h := own_empty (w.alloc (.cells #[.slice a1 r.p.length k1, .slice a2 r.s.length k2, .slice a3 r.x.length k3] 38)) (w.heap.size + 1) (by simp); simp only [World.size_alloc] at h; exact h : OwnI ((w.alloc (.cells #[.slice a1 r.p.length k1, .slice a2 r.s.length k2, .slice a3 r.x.length k3] 38)).alloc (.cells #[] 3)) (w.heap.size + 1) (.slice (some ⟨w.heap.size + 1, 0, none⟩) 0 0) [])
  go_enter Try.func106, Try.ntmps106
  go_wp2
  go_loopw [8, 9] (fun u x wr => ∃ (f : Nat) (k : Int) (o : List Int), x = .int .i64 k ∧ Hid (RunAt r i j f k o) ∧ OwnI wr (w.heap.size + 1) u o ∧ Below (w.heap.size + 1) (w.alloc (.cells #[.slice a1 r.p.length k1, .slice a2 r.s.length k2, .slice a3 r.x.length k3] 38)) wr) (fun _ x _ => if intOf x < 0 then 0 else (r.p.length + 1 - intOf x).toNat)
  case atStart => exact ⟨_, 0, [], rfl, Lib.hid (runAt_zero i j n32.1), hown0, (Below.refl _ _).alloc (by simp) _⟩
  case round =>
    clear hown0
    obtain ⟨f, k, o, rfl, hat, hown, hB⟩ := hrel
    obtain ⟨ad5, c5, rfl, -, -⟩ := hown.ints.out
    have hbl : ∀ g, (Value.slice ad5 o.length c5).ownBlock = some g → g < wr.heap.size := fun g e => (OwnS.lt hown g e).2
    have hbg : ∀ g, (Value.slice ad5 o.length c5).ownBlock = some g → w.heap.size + 1 ≤ g := fun g e => (OwnS.lt hown g e).1
    have hall : Below w.heap.size w wr := hA.trans (hB.mono (by omega))
    have hsz := hB.size
    simp only [World.size_alloc] at hsz
    have pBw : wr.heap[w.heap.size]? = some (.cells #[.slice a1 r.p.length k1, .slice a2 r.s.length k2, .slice a3 r.x.length k3] 38 (0, 0)) := (hB.block _ (by omega)).trans pB
    obtain ⟨⟨z0, z1, z2⟩, -⟩ := blk3 pBw
    have hol : o.length ≤ r.p.length := by have := hat.out.2.1; omega
    have hk5 := hat.out.2.2.2
    by_cases hk0 : k < 0
    · obtain ⟨E1, E2⟩ := runAt_end hat.out hk0
      have hge : ¬ k ≥ 0 := by omega
      replace E1 := Lib.hid E1
      replace E2 := Lib.hid E2
      go_wp2
      refine bodyPost_ret (v := .tuple #[.slice ad5 o.length c5, .int .i64 (-1 - k)]) (by simp [results, Try.results106, go_sem]) rfl ⟨_, by rw [E2.out], by rw [← E1.out]; exact hown.mono (by omega), hall⟩
    · obtain ⟨q, rfl⟩ := Int.eq_ofNat_of_zero_le (show 0 ≤ k by omega)
      have hq : q < r.p.length := by omega
      have hqs : q < r.s.length := by omega
      have hqx : q < r.x.length := by omega
      have hge : (q : Int) ≥ 0 := by omega
      clear hk0
      obtain ⟨b1, o1, rfl, hb1, c1⟩ := (hp.below hall).at q hq
      obtain ⟨b2, o2, ar, cr, rfl, hb2, c2, hir⟩ := (hs.below hall).at q hqs
      obtain ⟨b3, o3, rfl, hb3, c3, c3'⟩ := (hx.below hall).at q hqx
      have esp : Hid (spk r q = r.p[q]) := Lib.hid (by unfold spk; simp [List.getD, hq])
      have erow : Hid (rowR r q = r.s[q]) := Lib.hid (by unfold rowR; simp [List.getD, hqs])
      have enx : Hid (nxt r q 0 = r.x[q].1 ∧ nxt r q 1 = r.x[q].2) := Lib.hid (by unfold nxt pairN; simp [List.getD, hqx])
      have hR := hR0.out q hq
      rw [erow.out] at hR
      have hstep := fun b (hb : b < 2) (e : (bitR r i j q).toNat = b) => runAt_step hat.out (by rw [e]; exact hR.2.2.2.2 b hb)
      have hsp := hR.1
      rw [esp.out] at hsp
      rcases hsp with h1 | h1
      · have hrl : i < r.s[q].length := hR.2.1 (by rw [esp.out]; exact h1)
        obtain ⟨b4, o4, rfl, hb4, c4⟩ := hir.at i hrl
        have hv := hR.2.2.2.1 _ (List.getElem_mem hrl)
        have ebit : Hid (bitR r i j q = r.s[q][i]) := Lib.hid (by unfold bitR rowR; rw [esp.out, h1]; simp [List.getD, hqs, hrl])
        rw [h1] at c1
        rcases hv with hv | hv
        · skip
          rw [hv] at c4
          rw [hv] at ebit
          obtain ⟨f', hf'⟩ := hstep 0 (by omega) (by rw [ebit.out]; rfl)
          rw [ebit.out, show (0 : Int).toNat = 0 from rfl, enx.out.1] at hf'
          replace hf' := Lib.hid hf'
          have hm2 := next_facts (hR.2.2.2.2 0 (by omega))
          rw [enx.out.1] at hm2
          replace hR := Lib.hid hR
          replace hstep := Lib.hid hstep
          replace h1 := Lib.hid h1
          replace hv := Lib.hid hv
          go_wp2_with fail
          go_quiet (fail)
          all_goals go_wp2_with fail
          have hBd := fun n => below_drewN hB n
          have hownd := fun n => hown.below (below_drewN (Below.refl _ _) n)
          have hsd : ∀ n, (wr.drewN n).heap.size = wr.heap.size := fun _ => rfl
          generalize hwd : wr.drewN _ = wd
          replace hBd : Below (w.heap.size + 1) _ wd := hwd ▸ hBd _
          replace hownd : OwnI wd (w.heap.size + 1) (.slice ad5 o.length c5) o := hwd ▸ hownd _
          replace hsd : wd.heap.size = wr.heap.size := hwd ▸ hsd _
          clear hwd
          have halld : Below w.heap.size w wd := hA.trans (hBd.mono (by omega))
          have pBd := (hBd.block w.heap.size (by omega)).trans pB
          clear z0 z1 z2 c1 c2 c3 c3' c4
          obtain ⟨vals, hvals⟩ : ∃ vals : Nat → Value, vals = fun y => match y with | 0 => .slice ad5 o.length c5 | 1 => .int .i64 0 | 4 => .pointer (some ⟨w.heap.size, 2, none⟩) | 5 => .slice (some ⟨b3, o3, none⟩) r.x.length k3 | 6 => .int .i64 q | 7 => .int .i64 0 | 8 => .pointer (some ⟨b3, o3 + q * 2, none⟩) | 9 => .pointer (some ⟨b3, o3 + q * 2 + 0, none⟩) | _ => .int .i64 r.x[q].1 := ⟨_, rfl⟩
          replace hvals := Lib.hid hvals
          refine wp_region_free4 (by kernel_rfl) [none, none, none, none, none, none, none, none, some 11, some 12, none, none, none, none, none, none, none, none, none, none, none, none, none, none, none, none, none, none, none, none, some 0, some 1, some 2, some 3, some 4, some 5, some 6, some 7, some 8, some 9, some 10] 12 (by kernel_rfl) (by kernel_rfl) (by kernel_rfl) _ rfl
            (fun y k => y = 3 ∧ (Value.slice ad5 o.length c5).ownBlock = some k) (fun y v x u _ ww => runRel (w.heap.size + 1) wd.heap.size o 0 vals y v x u ww)
            (fun y y2 v x u g ww ww' hne hr hk => runRel_keep hne (fun k e => by have := hbl k e; omega) hr hk) (fun y v x u u' g g' ww he hr => runRel_stab (fun e => (he 3 (by subst e; decide)).1) hr) ?_ ?_
          · intro y op ho hy u g ww hk hd _ hU
            replace hU := Lib.hid hU
            have hallw : Below w.heap.size w ww := halld.trans (hk.below (fun k ⟨_, _, _, _, e⟩ => by have := hbg k e; omega) halld.size)
            have pBw2 := (hk.block w.heap.size (by omega) (fun ⟨_, _, _, _, e⟩ => by have := hbg _ e; omega)).trans pBd
            obtain ⟨⟨z0, z1, z2⟩, -⟩ := blk3 pBw2
            have hzw := hk.size
            obtain ⟨_, _, e9, hb9, d3, d3'⟩ := (hx.below hallw).at q hqx
            cases e9
            rcases y with _ | _ | _ | _ | _ | _ | _ | _ | _ | _ | _ | _ | _ | y
            all_goals try obtain rfl := Option.some.inj ho
            all_goals try simp only [putAll, fillL]
            · have e11 : u 11 = .slice ad5 o.length c5 := hU.out 11 8 (.inl (by decide)) rfl
              rw [e11]
              go_wp2
              exact ⟨_, by simp only [putAll, fillL, e11] <;> rfl, KeptOff.refl _ _, by rw [hvals.out]; rfl⟩
            · go_wp2
              exact ⟨_, rfl, KeptOff.refl _ _, by rw [hvals.out]; rfl⟩
            · have e1 : u 1 = .int .i64 0 := by have := hd 1 (by decide); rw [hvals.out] at this; exact this
              rw [e1]
              go_wp2
              exact ⟨_, by simp only [putAll, fillL, e1] <;> rfl, (kept0 ((Below.refl _ _).alloc (Nat.le_refl _) _)).mono (fun _ h => h.elim), rfl, heap_alloc_at rfl, (show _ ≤ ww.heap.size by omega)⟩
            · have e0 : u 0 = .slice ad5 o.length c5 := by have := hd 0 (by decide); rw [hvals.out] at this; exact this
              obtain ⟨e2, p2, -⟩ : u 2 = .slice (some ⟨(g 2).1, 0, none⟩) 1 1 ∧ ww.heap[(g 2).1]? = some (.cells #[.int .i64 0] 3 (0, 0)) ∧ _ := hd 2 (by decide)
              have hownw := hownd.off hk fun k _ ⟨j, hj, _, e, _⟩ => hj e
              rw [e0, e2]
              have hnew : Ints ww (.slice (some ⟨(g 2).1, 0, none⟩) 1 1) [0] := blk_ints (xs := [0]) p2 rfl (by simp)
              refine wp_append_intsG ww rfl (.tmp 30) (.tmp 32) rfl (w.heap.size + 1) (.slice ad5 o.length c5) o rfl hownw (.slice (some ⟨(g 2).1, 0, none⟩) 1 1) [0] rfl hnew (by simp) (by simp; omega) (by omega) ?_
              intro v' w' h1 h2 h3 h4
              go_wp2
              exact ⟨_, by simp only [putAll, fillL, e0, e2] <;> rfl, (grown_kept h2).mono (fun k e => ⟨rfl, e⟩), h1⟩
            · go_wp2
              exact ⟨_, rfl, KeptOff.refl _ _, by rw [hvals.out]; rfl⟩
            · have e4 : u 4 = .pointer (some ⟨w.heap.size, 2, none⟩) := by have := hd 4 (by decide); rw [hvals.out] at this; exact this
              rw [e4]
              go_wp2
              exact ⟨_, by simp only [putAll, fillL, e4] <;> rfl, KeptOff.refl _ _, by rw [hvals.out]; rfl⟩
            · have e12 : u 12 = .int .i64 q := hU.out 12 9 (.inr rfl) rfl
              rw [e12]
              go_wp2
              exact ⟨_, by simp only [putAll, fillL, e12] <;> rfl, KeptOff.refl _ _, by rw [hvals.out]; rfl⟩
            · go_wp2
              exact ⟨_, rfl, KeptOff.refl _ _, by rw [hvals.out]; rfl⟩
            · have e5 : u 5 = .slice (some ⟨b3, o3, none⟩) r.x.length k3 := by have := hd 5 (by decide); rw [hvals.out] at this; exact this
              have e6 : u 6 = .int .i64 q := by have := hd 6 (by decide); rw [hvals.out] at this; exact this
              rw [e5, e6]
              go_wp2
              exact ⟨_, by simp only [putAll, fillL, e5, e6] <;> rfl, KeptOff.refl _ _, by rw [hvals.out]; rfl⟩
            · have e8 : u 8 = .pointer (some ⟨b3, o3 + q * 2, none⟩) := by have := hd 8 (by decide); rw [hvals.out] at this; exact this
              have e7 : u 7 = .int .i64 0 := by have := hd 7 (by decide); rw [hvals.out] at this; exact this
              rw [e8, e7]
              go_wp2
              exact ⟨_, by simp only [putAll, fillL, e8, e7] <;> rfl, KeptOff.refl _ _, by rw [hvals.out]; rfl⟩
            · have e9 : u 9 = .pointer (some ⟨b3, o3 + q * 2 + 0, none⟩) := by have := hd 9 (by decide); rw [hvals.out] at this; exact this
              rw [e9]
              go_wp2
              exact ⟨_, by simp only [putAll, fillL, e9] <;> rfl, KeptOff.refl _ _, by rw [hvals.out]; rfl⟩
            · have d3 : OwnI ww (w.heap.size + 1) (u 3) (o ++ [0]) := hd 3 (by decide)
              go_wp2
              exact ⟨_, rfl, KeptOff.refl _ _, rfl⟩
            · exact absurd rfl hy
            · simp at ho
          · intro u g ww hk hR9 _
            have d3 : OwnI ww (w.heap.size + 1) (u 3) (o ++ [0]) := hR9 3 (by decide) (by decide)
            have e11 : u 11 = u 3 := hR9 11 (by decide) (by decide)
            have e10 : u 10 = .int .i64 r.x[q].1 := by have := hR9 10 (by decide) (by decide); rw [hvals.out] at this; exact this
            simp only [putAll, fillL]
            rw [e11, e10]
            have hB3 : Below (w.heap.size + 1) _ ww := hBd.trans (hk.below (fun k ⟨_, _, _, e⟩ => hbg k e) (by omega))
            clear hR9 e11 e10 hk
            go_wp2
            go_roundw
            case rel => exact ⟨f', _, _, rfl, hf', d3, hB3⟩
            case measure => (rw [intOf, intOf, if_neg (show ¬ (q : Int) < 0 by omega)]; split <;> omega)
        · skip
          rw [hv] at c4
          rw [hv] at ebit
          obtain ⟨f', hf'⟩ := hstep 1 (by omega) (by rw [ebit.out]; rfl)
          rw [ebit.out, show (1 : Int).toNat = 1 from rfl, enx.out.2] at hf'
          replace hf' := Lib.hid hf'
          have hm2 := next_facts (hR.2.2.2.2 1 (by omega))
          rw [enx.out.2] at hm2
          replace hR := Lib.hid hR
          replace hstep := Lib.hid hstep
          replace h1 := Lib.hid h1
          replace hv := Lib.hid hv
          go_wp2_with fail
          go_quiet (fail)
          all_goals go_wp2_with fail
          have hBd := fun n => below_drewN hB n
          have hownd := fun n => hown.below (below_drewN (Below.refl _ _) n)
          have hsd : ∀ n, (wr.drewN n).heap.size = wr.heap.size := fun _ => rfl
          generalize hwd : wr.drewN _ = wd
          replace hBd : Below (w.heap.size + 1) _ wd := hwd ▸ hBd _
          replace hownd : OwnI wd (w.heap.size + 1) (.slice ad5 o.length c5) o := hwd ▸ hownd _
          replace hsd : wd.heap.size = wr.heap.size := hwd ▸ hsd _
          clear hwd
          have halld : Below w.heap.size w wd := hA.trans (hBd.mono (by omega))
          have pBd := (hBd.block w.heap.size (by omega)).trans pB
          clear z0 z1 z2 c1 c2 c3 c3' c4
          obtain ⟨vals, hvals⟩ : ∃ vals : Nat → Value, vals = fun y => match y with | 0 => .slice ad5 o.length c5 | 1 => .int .i64 1 | 4 => .pointer (some ⟨w.heap.size, 2, none⟩) | 5 => .slice (some ⟨b3, o3, none⟩) r.x.length k3 | 6 => .int .i64 q | 7 => .int .i64 1 | 8 => .pointer (some ⟨b3, o3 + q * 2, none⟩) | 9 => .pointer (some ⟨b3, o3 + q * 2 + 1, none⟩) | _ => .int .i64 r.x[q].2 := ⟨_, rfl⟩
          replace hvals := Lib.hid hvals
          refine wp_region_free4 (by kernel_rfl) [none, none, none, none, none, none, none, none, some 11, some 12, none, none, none, none, none, none, none, none, none, none, none, none, none, none, none, none, none, none, none, none, some 0, some 1, some 2, some 3, some 4, some 5, some 6, some 7, some 8, some 9, some 10] 12 (by kernel_rfl) (by kernel_rfl) (by kernel_rfl) _ rfl
            (fun y k => y = 3 ∧ (Value.slice ad5 o.length c5).ownBlock = some k) (fun y v x u _ ww => runRel (w.heap.size + 1) wd.heap.size o 1 vals y v x u ww)
            (fun y y2 v x u g ww ww' hne hr hk => runRel_keep hne (fun k e => by have := hbl k e; omega) hr hk) (fun y v x u u' g g' ww he hr => runRel_stab (fun e => (he 3 (by subst e; decide)).1) hr) ?_ ?_
          · intro y op ho hy u g ww hk hd _ hU
            replace hU := Lib.hid hU
            have hallw : Below w.heap.size w ww := halld.trans (hk.below (fun k ⟨_, _, _, _, e⟩ => by have := hbg k e; omega) halld.size)
            have pBw2 := (hk.block w.heap.size (by omega) (fun ⟨_, _, _, _, e⟩ => by have := hbg _ e; omega)).trans pBd
            obtain ⟨⟨z0, z1, z2⟩, -⟩ := blk3 pBw2
            have hzw := hk.size
            obtain ⟨_, _, e9, hb9, d3, d3'⟩ := (hx.below hallw).at q hqx
            cases e9
            rcases y with _ | _ | _ | _ | _ | _ | _ | _ | _ | _ | _ | _ | _ | y
            all_goals try obtain rfl := Option.some.inj ho
            all_goals try simp only [putAll, fillL]
            · have e11 : u 11 = .slice ad5 o.length c5 := hU.out 11 8 (.inl (by decide)) rfl
              rw [e11]
              go_wp2
              exact ⟨_, by simp only [putAll, fillL, e11] <;> rfl, KeptOff.refl _ _, by rw [hvals.out]; rfl⟩
            · go_wp2
              exact ⟨_, rfl, KeptOff.refl _ _, by rw [hvals.out]; rfl⟩
            · have e1 : u 1 = .int .i64 1 := by have := hd 1 (by decide); rw [hvals.out] at this; exact this
              rw [e1]
              go_wp2
              exact ⟨_, by simp only [putAll, fillL, e1] <;> rfl, (kept0 ((Below.refl _ _).alloc (Nat.le_refl _) _)).mono (fun _ h => h.elim), rfl, heap_alloc_at rfl, (show _ ≤ ww.heap.size by omega)⟩
            · have e0 : u 0 = .slice ad5 o.length c5 := by have := hd 0 (by decide); rw [hvals.out] at this; exact this
              obtain ⟨e2, p2, -⟩ : u 2 = .slice (some ⟨(g 2).1, 0, none⟩) 1 1 ∧ ww.heap[(g 2).1]? = some (.cells #[.int .i64 1] 3 (0, 0)) ∧ _ := hd 2 (by decide)
              have hownw := hownd.off hk fun k _ ⟨j, hj, _, e, _⟩ => hj e
              rw [e0, e2]
              have hnew : Ints ww (.slice (some ⟨(g 2).1, 0, none⟩) 1 1) [1] := blk_ints (xs := [1]) p2 rfl (by simp)
              refine wp_append_intsG ww rfl (.tmp 30) (.tmp 32) rfl (w.heap.size + 1) (.slice ad5 o.length c5) o rfl hownw (.slice (some ⟨(g 2).1, 0, none⟩) 1 1) [1] rfl hnew (by simp) (by simp; omega) (by omega) ?_
              intro v' w' h1 h2 h3 h4
              go_wp2
              exact ⟨_, by simp only [putAll, fillL, e0, e2] <;> rfl, (grown_kept h2).mono (fun k e => ⟨rfl, e⟩), h1⟩
            · go_wp2
              exact ⟨_, rfl, KeptOff.refl _ _, by rw [hvals.out]; rfl⟩
            · have e4 : u 4 = .pointer (some ⟨w.heap.size, 2, none⟩) := by have := hd 4 (by decide); rw [hvals.out] at this; exact this
              rw [e4]
              go_wp2
              exact ⟨_, by simp only [putAll, fillL, e4] <;> rfl, KeptOff.refl _ _, by rw [hvals.out]; rfl⟩
            · have e12 : u 12 = .int .i64 q := hU.out 12 9 (.inr rfl) rfl
              rw [e12]
              go_wp2
              exact ⟨_, by simp only [putAll, fillL, e12] <;> rfl, KeptOff.refl _ _, by rw [hvals.out]; rfl⟩
            · go_wp2
              exact ⟨_, rfl, KeptOff.refl _ _, by rw [hvals.out]; rfl⟩
            · have e5 : u 5 = .slice (some ⟨b3, o3, none⟩) r.x.length k3 := by have := hd 5 (by decide); rw [hvals.out] at this; exact this
              have e6 : u 6 = .int .i64 q := by have := hd 6 (by decide); rw [hvals.out] at this; exact this
              rw [e5, e6]
              go_wp2
              exact ⟨_, by simp only [putAll, fillL, e5, e6] <;> rfl, KeptOff.refl _ _, by rw [hvals.out]; rfl⟩
            · have e8 : u 8 = .pointer (some ⟨b3, o3 + q * 2, none⟩) := by have := hd 8 (by decide); rw [hvals.out] at this; exact this
              have e7 : u 7 = .int .i64 1 := by have := hd 7 (by decide); rw [hvals.out] at this; exact this
              rw [e8, e7]
              go_wp2
              exact ⟨_, by simp only [putAll, fillL, e8, e7] <;> rfl, KeptOff.refl _ _, by rw [hvals.out]; rfl⟩
            · have e9 : u 9 = .pointer (some ⟨b3, o3 + q * 2 + 1, none⟩) := by have := hd 9 (by decide); rw [hvals.out] at this; exact this
              rw [e9]
              go_wp2
              exact ⟨_, by simp only [putAll, fillL, e9] <;> rfl, KeptOff.refl _ _, by rw [hvals.out]; rfl⟩
            · have d3 : OwnI ww (w.heap.size + 1) (u 3) (o ++ [1]) := hd 3 (by decide)
              go_wp2
              exact ⟨_, rfl, KeptOff.refl _ _, rfl⟩
            · exact absurd rfl hy
            · simp at ho
          · intro u g ww hk hR9 _
            have d3 : OwnI ww (w.heap.size + 1) (u 3) (o ++ [1]) := hR9 3 (by decide) (by decide)
            have e11 : u 11 = u 3 := hR9 11 (by decide) (by decide)
            have e10 : u 10 = .int .i64 r.x[q].2 := by have := hR9 10 (by decide) (by decide); rw [hvals.out] at this; exact this
            simp only [putAll, fillL]
            rw [e11, e10]
            have hB3 : Below (w.heap.size + 1) _ ww := hBd.trans (hk.below (fun k ⟨_, _, _, e⟩ => hbg k e) (by omega))
            clear hR9 e11 e10 hk
            go_wp2
            go_roundw
            case rel => exact ⟨f', _, _, rfl, hf', d3, hB3⟩
            case measure => (rw [intOf, intOf, if_neg (show ¬ (q : Int) < 0 by omega)]; split <;> omega)
      · have hrl : j < r.s[q].length := hR.2.2.1 (by rw [esp.out]; exact h1)
        obtain ⟨b4, o4, rfl, hb4, c4⟩ := hir.at j hrl
        have hv := hR.2.2.2.1 _ (List.getElem_mem hrl)
        have ebit : Hid (bitR r i j q = r.s[q][j]) := Lib.hid (by unfold bitR rowR; rw [esp.out, h1]; simp [List.getD, hqs, hrl])
        rw [h1] at c1
        rcases hv with hv | hv
        · skip
          rw [hv] at c4
          rw [hv] at ebit
          obtain ⟨f', hf'⟩ := hstep 0 (by omega) (by rw [ebit.out]; rfl)
          rw [ebit.out, show (0 : Int).toNat = 0 from rfl, enx.out.1] at hf'
          replace hf' := Lib.hid hf'
          have hm2 := next_facts (hR.2.2.2.2 0 (by omega))
          rw [enx.out.1] at hm2
          replace hR := Lib.hid hR
          replace hstep := Lib.hid hstep
          replace h1 := Lib.hid h1
          replace hv := Lib.hid hv
          go_wp2_with fail
          go_quiet (fail)
          all_goals go_wp2_with fail
          have hBd := fun n => below_drewN hB n
          have hownd := fun n => hown.below (below_drewN (Below.refl _ _) n)
          have hsd : ∀ n, (wr.drewN n).heap.size = wr.heap.size := fun _ => rfl
          generalize hwd : wr.drewN _ = wd
          replace hBd : Below (w.heap.size + 1) _ wd := hwd ▸ hBd _
          replace hownd : OwnI wd (w.heap.size + 1) (.slice ad5 o.length c5) o := hwd ▸ hownd _
          replace hsd : wd.heap.size = wr.heap.size := hwd ▸ hsd _
          clear hwd
          have halld : Below w.heap.size w wd := hA.trans (hBd.mono (by omega))
          have pBd := (hBd.block w.heap.size (by omega)).trans pB
          clear z0 z1 z2 c1 c2 c3 c3' c4
          obtain ⟨vals, hvals⟩ : ∃ vals : Nat → Value, vals = fun y => match y with | 0 => .slice ad5 o.length c5 | 1 => .int .i64 0 | 4 => .pointer (some ⟨w.heap.size, 2, none⟩) | 5 => .slice (some ⟨b3, o3, none⟩) r.x.length k3 | 6 => .int .i64 q | 7 => .int .i64 0 | 8 => .pointer (some ⟨b3, o3 + q * 2, none⟩) | 9 => .pointer (some ⟨b3, o3 + q * 2 + 0, none⟩) | _ => .int .i64 r.x[q].1 := ⟨_, rfl⟩
          replace hvals := Lib.hid hvals
          refine wp_region_free4 (by kernel_rfl) [none, none, none, none, none, none, none, none, some 11, some 12, none, none, none, none, none, none, none, none, none, none, none, none, none, none, none, none, none, none, none, none, some 0, some 1, some 2, some 3, some 4, some 5, some 6, some 7, some 8, some 9, some 10] 12 (by kernel_rfl) (by kernel_rfl) (by kernel_rfl) _ rfl
            (fun y k => y = 3 ∧ (Value.slice ad5 o.length c5).ownBlock = some k) (fun y v x u _ ww => runRel (w.heap.size + 1) wd.heap.size o 0 vals y v x u ww)
            (fun y y2 v x u g ww ww' hne hr hk => runRel_keep hne (fun k e => by have := hbl k e; omega) hr hk) (fun y v x u u' g g' ww he hr => runRel_stab (fun e => (he 3 (by subst e; decide)).1) hr) ?_ ?_
          · intro y op ho hy u g ww hk hd _ hU
            replace hU := Lib.hid hU
            have hallw : Below w.heap.size w ww := halld.trans (hk.below (fun k ⟨_, _, _, _, e⟩ => by have := hbg k e; omega) halld.size)
            have pBw2 := (hk.block w.heap.size (by omega) (fun ⟨_, _, _, _, e⟩ => by have := hbg _ e; omega)).trans pBd
            obtain ⟨⟨z0, z1, z2⟩, -⟩ := blk3 pBw2
            have hzw := hk.size
            obtain ⟨_, _, e9, hb9, d3, d3'⟩ := (hx.below hallw).at q hqx
            cases e9
            rcases y with _ | _ | _ | _ | _ | _ | _ | _ | _ | _ | _ | _ | _ | y
            all_goals try obtain rfl := Option.some.inj ho
            all_goals try simp only [putAll, fillL]
            · have e11 : u 11 = .slice ad5 o.length c5 := hU.out 11 8 (.inl (by decide)) rfl
              rw [e11]
              go_wp2
              exact ⟨_, by simp only [putAll, fillL, e11] <;> rfl, KeptOff.refl _ _, by rw [hvals.out]; rfl⟩
            · go_wp2
              exact ⟨_, rfl, KeptOff.refl _ _, by rw [hvals.out]; rfl⟩
            · have e1 : u 1 = .int .i64 0 := by have := hd 1 (by decide); rw [hvals.out] at this; exact this
              rw [e1]
              go_wp2
              exact ⟨_, by simp only [putAll, fillL, e1] <;> rfl, (kept0 ((Below.refl _ _).alloc (Nat.le_refl _) _)).mono (fun _ h => h.elim), rfl, heap_alloc_at rfl, (show _ ≤ ww.heap.size by omega)⟩
            · have e0 : u 0 = .slice ad5 o.length c5 := by have := hd 0 (by decide); rw [hvals.out] at this; exact this
              obtain ⟨e2, p2, -⟩ : u 2 = .slice (some ⟨(g 2).1, 0, none⟩) 1 1 ∧ ww.heap[(g 2).1]? = some (.cells #[.int .i64 0] 3 (0, 0)) ∧ _ := hd 2 (by decide)
              have hownw := hownd.off hk fun k _ ⟨j, hj, _, e, _⟩ => hj e
              rw [e0, e2]
              have hnew : Ints ww (.slice (some ⟨(g 2).1, 0, none⟩) 1 1) [0] := blk_ints (xs := [0]) p2 rfl (by simp)
              refine wp_append_intsG ww rfl (.tmp 30) (.tmp 32) rfl (w.heap.size + 1) (.slice ad5 o.length c5) o rfl hownw (.slice (some ⟨(g 2).1, 0, none⟩) 1 1) [0] rfl hnew (by simp) (by simp; omega) (by omega) ?_
              intro v' w' h1 h2 h3 h4
              go_wp2
              exact ⟨_, by simp only [putAll, fillL, e0, e2] <;> rfl, (grown_kept h2).mono (fun k e => ⟨rfl, e⟩), h1⟩
            · go_wp2
              exact ⟨_, rfl, KeptOff.refl _ _, by rw [hvals.out]; rfl⟩
            · have e4 : u 4 = .pointer (some ⟨w.heap.size, 2, none⟩) := by have := hd 4 (by decide); rw [hvals.out] at this; exact this
              rw [e4]
              go_wp2
              exact ⟨_, by simp only [putAll, fillL, e4] <;> rfl, KeptOff.refl _ _, by rw [hvals.out]; rfl⟩
            · have e12 : u 12 = .int .i64 q := hU.out 12 9 (.inr rfl) rfl
              rw [e12]
              go_wp2
              exact ⟨_, by simp only [putAll, fillL, e12] <;> rfl, KeptOff.refl _ _, by rw [hvals.out]; rfl⟩
            · go_wp2
              exact ⟨_, rfl, KeptOff.refl _ _, by rw [hvals.out]; rfl⟩
            · have e5 : u 5 = .slice (some ⟨b3, o3, none⟩) r.x.length k3 := by have := hd 5 (by decide); rw [hvals.out] at this; exact this
              have e6 : u 6 = .int .i64 q := by have := hd 6 (by decide); rw [hvals.out] at this; exact this
              rw [e5, e6]
              go_wp2
              exact ⟨_, by simp only [putAll, fillL, e5, e6] <;> rfl, KeptOff.refl _ _, by rw [hvals.out]; rfl⟩
            · have e8 : u 8 = .pointer (some ⟨b3, o3 + q * 2, none⟩) := by have := hd 8 (by decide); rw [hvals.out] at this; exact this
              have e7 : u 7 = .int .i64 0 := by have := hd 7 (by decide); rw [hvals.out] at this; exact this
              rw [e8, e7]
              go_wp2
              exact ⟨_, by simp only [putAll, fillL, e8, e7] <;> rfl, KeptOff.refl _ _, by rw [hvals.out]; rfl⟩
            · have e9 : u 9 = .pointer (some ⟨b3, o3 + q * 2 + 0, none⟩) := by have := hd 9 (by decide); rw [hvals.out] at this; exact this
              rw [e9]
              go_wp2
              exact ⟨_, by simp only [putAll, fillL, e9] <;> rfl, KeptOff.refl _ _, by rw [hvals.out]; rfl⟩
            · have d3 : OwnI ww (w.heap.size + 1) (u 3) (o ++ [0]) := hd 3 (by decide)
              go_wp2
              exact ⟨_, rfl, KeptOff.refl _ _, rfl⟩
            · exact absurd rfl hy
            · simp at ho
          · intro u g ww hk hR9 _
            have d3 : OwnI ww (w.heap.size + 1) (u 3) (o ++ [0]) := hR9 3 (by decide) (by decide)
            have e11 : u 11 = u 3 := hR9 11 (by decide) (by decide)
            have e10 : u 10 = .int .i64 r.x[q].1 := by have := hR9 10 (by decide) (by decide); rw [hvals.out] at this; exact this
            simp only [putAll, fillL]
            rw [e11, e10]
            have hB3 : Below (w.heap.size + 1) _ ww := hBd.trans (hk.below (fun k ⟨_, _, _, e⟩ => hbg k e) (by omega))
            clear hR9 e11 e10 hk
            go_wp2
            go_roundw
            case rel => exact ⟨f', _, _, rfl, hf', d3, hB3⟩
            case measure => (rw [intOf, intOf, if_neg (show ¬ (q : Int) < 0 by omega)]; split <;> omega)
        · skip
          rw [hv] at c4
          rw [hv] at ebit
          obtain ⟨f', hf'⟩ := hstep 1 (by omega) (by rw [ebit.out]; rfl)
          rw [ebit.out, show (1 : Int).toNat = 1 from rfl, enx.out.2] at hf'
          replace hf' := Lib.hid hf'
          have hm2 := next_facts (hR.2.2.2.2 1 (by omega))
          rw [enx.out.2] at hm2
          replace hR := Lib.hid hR
          replace hstep := Lib.hid hstep
          replace h1 := Lib.hid h1
          replace hv := Lib.hid hv
          go_wp2_with fail
          go_quiet (fail)
          all_goals go_wp2_with fail
          have hBd := fun n => below_drewN hB n
          have hownd := fun n => hown.below (below_drewN (Below.refl _ _) n)
          have hsd : ∀ n, (wr.drewN n).heap.size = wr.heap.size := fun _ => rfl
          generalize hwd : wr.drewN _ = wd
          replace hBd : Below (w.heap.size + 1) _ wd := hwd ▸ hBd _
          replace hownd : OwnI wd (w.heap.size + 1) (.slice ad5 o.length c5) o := hwd ▸ hownd _
          replace hsd : wd.heap.size = wr.heap.size := hwd ▸ hsd _
          clear hwd
          have halld : Below w.heap.size w wd := hA.trans (hBd.mono (by omega))
          have pBd := (hBd.block w.heap.size (by omega)).trans pB
          clear z0 z1 z2 c1 c2 c3 c3' c4
          obtain ⟨vals, hvals⟩ : ∃ vals : Nat → Value, vals = fun y => match y with | 0 => .slice ad5 o.length c5 | 1 => .int .i64 1 | 4 => .pointer (some ⟨w.heap.size, 2, none⟩) | 5 => .slice (some ⟨b3, o3, none⟩) r.x.length k3 | 6 => .int .i64 q | 7 => .int .i64 1 | 8 => .pointer (some ⟨b3, o3 + q * 2, none⟩) | 9 => .pointer (some ⟨b3, o3 + q * 2 + 1, none⟩) | _ => .int .i64 r.x[q].2 := ⟨_, rfl⟩
          replace hvals := Lib.hid hvals
          refine wp_region_free4 (by kernel_rfl) [none, none, none, none, none, none, none, none, some 11, some 12, none, none, none, none, none, none, none, none, none, none, none, none, none, none, none, none, none, none, none, none, some 0, some 1, some 2, some 3, some 4, some 5, some 6, some 7, some 8, some 9, some 10] 12 (by kernel_rfl) (by kernel_rfl) (by kernel_rfl) _ rfl
            (fun y k => y = 3 ∧ (Value.slice ad5 o.length c5).ownBlock = some k) (fun y v x u _ ww => runRel (w.heap.size + 1) wd.heap.size o 1 vals y v x u ww)
            (fun y y2 v x u g ww ww' hne hr hk => runRel_keep hne (fun k e => by have := hbl k e; omega) hr hk) (fun y v x u u' g g' ww he hr => runRel_stab (fun e => (he 3 (by subst e; decide)).1) hr) ?_ ?_
          · intro y op ho hy u g ww hk hd _ hU
            replace hU := Lib.hid hU
            have hallw : Below w.heap.size w ww := halld.trans (hk.below (fun k ⟨_, _, _, _, e⟩ => by have := hbg k e; omega) halld.size)
            have pBw2 := (hk.block w.heap.size (by omega) (fun ⟨_, _, _, _, e⟩ => by have := hbg _ e; omega)).trans pBd
            obtain ⟨⟨z0, z1, z2⟩, -⟩ := blk3 pBw2
            have hzw := hk.size
            obtain ⟨_, _, e9, hb9, d3, d3'⟩ := (hx.below hallw).at q hqx
            cases e9
            rcases y with _ | _ | _ | _ | _ | _ | _ | _ | _ | _ | _ | _ | _ | y
            all_goals try obtain rfl := Option.some.inj ho
            all_goals try simp only [putAll, fillL]
            · have e11 : u 11 = .slice ad5 o.length c5 := hU.out 11 8 (.inl (by decide)) rfl
              rw [e11]
              go_wp2
              exact ⟨_, by simp only [putAll, fillL, e11] <;> rfl, KeptOff.refl _ _, by rw [hvals.out]; rfl⟩
            · go_wp2
              exact ⟨_, rfl, KeptOff.refl _ _, by rw [hvals.out]; rfl⟩
            · have e1 : u 1 = .int .i64 1 := by have := hd 1 (by decide); rw [hvals.out] at this; exact this
              rw [e1]
              go_wp2
              exact ⟨_, by simp only [putAll, fillL, e1] <;> rfl, (kept0 ((Below.refl _ _).alloc (Nat.le_refl _) _)).mono (fun _ h => h.elim), rfl, heap_alloc_at rfl, (show _ ≤ ww.heap.size by omega)⟩
            · have e0 : u 0 = .slice ad5 o.length c5 := by have := hd 0 (by decide); rw [hvals.out] at this; exact this
              obtain ⟨e2, p2, -⟩ : u 2 = .slice (some ⟨(g 2).1, 0, none⟩) 1 1 ∧ ww.heap[(g 2).1]? = some (.cells #[.int .i64 1] 3 (0, 0)) ∧ _ := hd 2 (by decide)
              have hownw := hownd.off hk fun k _ ⟨j, hj, _, e, _⟩ => hj e
              rw [e0, e2]
              have hnew : Ints ww (.slice (some ⟨(g 2).1, 0, none⟩) 1 1) [1] := blk_ints (xs := [1]) p2 rfl (by simp)
              refine wp_append_intsG ww rfl (.tmp 30) (.tmp 32) rfl (w.heap.size + 1) (.slice ad5 o.length c5) o rfl hownw (.slice (some ⟨(g 2).1, 0, none⟩) 1 1) [1] rfl hnew (by simp) (by simp; omega) (by omega) ?_
              intro v' w' h1 h2 h3 h4
              go_wp2
              exact ⟨_, by simp only [putAll, fillL, e0, e2] <;> rfl, (grown_kept h2).mono (fun k e => ⟨rfl, e⟩), h1⟩
            · go_wp2
              exact ⟨_, rfl, KeptOff.refl _ _, by rw [hvals.out]; rfl⟩
            · have e4 : u 4 = .pointer (some ⟨w.heap.size, 2, none⟩) := by have := hd 4 (by decide); rw [hvals.out] at this; exact this
              rw [e4]
              go_wp2
              exact ⟨_, by simp only [putAll, fillL, e4] <;> rfl, KeptOff.refl _ _, by rw [hvals.out]; rfl⟩
            · have e12 : u 12 = .int .i64 q := hU.out 12 9 (.inr rfl) rfl
              rw [e12]
              go_wp2
              exact ⟨_, by simp only [putAll, fillL, e12] <;> rfl, KeptOff.refl _ _, by rw [hvals.out]; rfl⟩
            · go_wp2
              exact ⟨_, rfl, KeptOff.refl _ _, by rw [hvals.out]; rfl⟩
            · have e5 : u 5 = .slice (some ⟨b3, o3, none⟩) r.x.length k3 := by have := hd 5 (by decide); rw [hvals.out] at this; exact this
              have e6 : u 6 = .int .i64 q := by have := hd 6 (by decide); rw [hvals.out] at this; exact this
              rw [e5, e6]
              go_wp2
              exact ⟨_, by simp only [putAll, fillL, e5, e6] <;> rfl, KeptOff.refl _ _, by rw [hvals.out]; rfl⟩
            · have e8 : u 8 = .pointer (some ⟨b3, o3 + q * 2, none⟩) := by have := hd 8 (by decide); rw [hvals.out] at this; exact this
              have e7 : u 7 = .int .i64 1 := by have := hd 7 (by decide); rw [hvals.out] at this; exact this
              rw [e8, e7]
              go_wp2
              exact ⟨_, by simp only [putAll, fillL, e8, e7] <;> rfl, KeptOff.refl _ _, by rw [hvals.out]; rfl⟩
            · have e9 : u 9 = .pointer (some ⟨b3, o3 + q * 2 + 1, none⟩) := by have := hd 9 (by decide); rw [hvals.out] at this; exact this
              rw [e9]
              go_wp2
              exact ⟨_, by simp only [putAll, fillL, e9] <;> rfl, KeptOff.refl _ _, by rw [hvals.out]; rfl⟩
            · have d3 : OwnI ww (w.heap.size + 1) (u 3) (o ++ [1]) := hd 3 (by decide)
              go_wp2
              exact ⟨_, rfl, KeptOff.refl _ _, rfl⟩
            · exact absurd rfl hy
            · simp at ho
          · intro u g ww hk hR9 _
            have d3 : OwnI ww (w.heap.size + 1) (u 3) (o ++ [1]) := hR9 3 (by decide) (by decide)
            have e11 : u 11 = u 3 := hR9 11 (by decide) (by decide)
            have e10 : u 10 = .int .i64 r.x[q].2 := by have := hR9 10 (by decide) (by decide); rw [hvals.out] at this; exact this
            simp only [putAll, fillL]
            rw [e11, e10]
            have hB3 : Below (w.heap.size + 1) _ ww := hBd.trans (hk.below (fun k ⟨_, _, _, e⟩ => hbg k e) (by omega))
            clear hR9 e11 e10 hk
            go_wp2
            go_roundw
            case rel => exact ⟨f', _, _, rfl, hf', d3, hB3⟩
            case measure => (rw [intOf, intOf, if_neg (show ¬ (q : Int) < 0 by omega)]; split <;> omega)
end Go.Proofs.Ytpieaeokbblflaa
