/- Scenes with numbers that are drawn from bytes; conditions: none. -/
import Derived.Test.YtiidphlfpiaoeaaDrawS1
import Derived.Test.YtiidphlfpiaoeaaFreeC
namespace Go.Proofs.Ytiidphlfpiaoeaa
open Go.RowKit


def JN (cg K lo : Nat) (W : World) : Nat → (Nat → Value) → World → Prop
  | 0, _, w => KeptOff (fun k => k = cg) W w ∧ CurR w cg K
  | _, u, w => KeptOff (fun k => k = cg) W w ∧ ∃ xs, OwnI w lo (u 3) xs ∧ xs.length ≤ 14
theorem JN.kk {cg K lo : Nat} {W : World} {s : Nat} {u : Nat → Value} {w : World} (h : JN cg K lo W s u w) : KeptOff (fun k => k = cg) W w := by
  rcases s with _ | s
  · exact h.1
  · exact h.1
theorem JN.upd {cg K lo : Nat} {W : World} {s : Nat} {u : Nat → Value} {w : World} (h : JN cg K lo W s u w) (i : Nat) (hi : i ≠ 3) (v : Value) : JN cg K lo W s (upd u i v) w := by
  have h3 : Proofs.Ytiidphlfpiaoeaa.upd u i v 3 = u 3 := if_neg fun e => hi e.symm
  rcases s with _ | s
  · exact h
  · exact ⟨h.1, by rw [h3]; exact h.2⟩
theorem own_off2 {lo : Nat} {w w' : World} {v : Value} {xs : List Int} {G : Nat → Prop} (h : OwnI w lo v xs) (hk : KeptOff G w w') (hG : ∀ k, G k → k < lo) : OwnI w' lo v xs :=
  OwnS.off h hk fun g e f => by have := (OwnS.lt h g e).1; have := hG g f; omega
set_option maxRecDepth 100000 in
set_option maxHeartbeats 4000000 in
theorem c_DrawKeptBy (v : Value) (m : Nat) (w : World) (h : BytesV w v m) :
    Calls Try.prog 47 #[v] w fun e w' => ∃ v' u' r xs, e = .returned (.tuple #[v', u']) ∧ SceneB w' w.heap.size v' r ∧ OwnI w' w.heap.size u' xs ∧ Below w.heap.size w w' := by
  obtain ⟨ad, cap, rfl, hcap, hbr⟩ := id h
  have hA0 := (Below.refl w.heap.size w).alloc (Nat.le_refl _) (.cells #[.int .i64 0, .slice none 0 0, .slice none 0 0] 27)
  obtain ⟨w0, hw0⟩ : ∃ z, z = w.alloc (.cells #[.int .i64 0, .slice none 0 0, .slice none 0 0] 27) := ⟨_, rfl⟩
  have hz0 : w0.heap.size = w.heap.size + 1 := by rw [hw0]; simp
  have p0' : w0.heap[w.heap.size]? = some (.cells #[.int .i64 0, .slice none 0 0, .slice none 0 0] 27 (0, 0)) := by rw [hw0]; exact heap_alloc_at rfl
  rw [← hw0] at hA0
  have hcn := cur_new (cap := cap) (hbr.below hA0)
  have hAc := (Below.refl w0.heap.size w0).alloc (Nat.le_refl _) (.cells #[.slice ad m cap, .int .i64 0, .int .u64 0] 83)
  obtain ⟨wa, hwa⟩ : ∃ z, z = w0.alloc (.cells #[.slice ad m cap, .int .i64 0, .int .u64 0] 83) := ⟨_, rfl⟩
  have hza : wa.heap.size = w0.heap.size + 1 := by rw [hwa]; simp
  rw [← hwa] at hcn hAc
  have p0 := blk_later hAc p0'
  obtain ⟨cg, hcg⟩ : ∃ z, z = w.heap.size + 1 := ⟨_, rfl⟩
  obtain ⟨lo, hlo⟩ : ∃ z, z = wa.heap.size := ⟨_, rfl⟩
  rw [hz0, ← hcg] at hcn
  go_enter Try.func47, Try.ntmps47
  go_wp2_with fail
  rw [← hw0, ← hwa, ← hcg]
  clear hw0 hwa
  refine (c_scene7 cg 0 _ hcn (by omega)).mono ?_
  rintro e w2 ⟨v', r, rfl, hG, hc2, hkk⟩
  rw [← hlo] at hG
  have hk00 : KeptOff (fun k => k = cg ∨ k = w.heap.size) w wa := ((kept0 hA0).trans (kept0 hAc)).mono fun _ f => f.elim
  clear p0' hAc hA0 hcn hbr
  have hz2 := hkk.size
  obtain ⟨a, k, b, m2, rfl⟩ := hG.form
  have hSR := hG.rd
  obtain ⟨n1, hn1⟩ : ∃ n, n = r.c.length := ⟨_, rfl⟩
  obtain ⟨n2, hn2⟩ : ∃ n, n = r.s.length := ⟨_, rfl⟩
  obtain ⟨rn, hrn⟩ : ∃ n, n = r.n := ⟨_, rfl⟩
  rw [← hn1, ← hn2, ← hrn] at hG hSR ⊢
  clear hn1 hn2 hrn
  have hA3 := (Below.refl w2.heap.size w2).alloc (Nat.le_refl _) (.cells #[.int .i64 rn, .slice a n1 k, .slice b n2 m2] 27)
  have p3 : (w2.alloc (.cells #[.int .i64 rn, .slice a n1 k, .slice b n2 m2] 27)).heap[w2.heap.size]? = some (.cells #[.int .i64 rn, .slice a n1 k, .slice b n2 m2] 27 (0, 0)) := heap_alloc_at rfl
  obtain ⟨w3, hw3⟩ : ∃ z, z = w2.alloc (.cells #[.int .i64 rn, .slice a n1 k, .slice b n2 m2] 27) := ⟨_, rfl⟩
  have hz3 : w3.heap.size = w2.heap.size + 1 := by rw [hw3]; simp
  rw [← hw3] at hA3 p3
  replace hG := hG.below hA3
  replace hSR := hSR.below hA3
  have hc3 := hc2.below hA3
  have hk3 := hkk.trans ((kept0 hA3).mono fun _ f => f.elim)
  obtain ⟨⟨x0, x1, x2⟩, -⟩ := blk3 p3
  go_upto_region 3 with fail
  rw [← hw3]
  clear hw3 hA3 hkk hc2 p3
  rw [← hcg]
  have hq1 : w.heap.size < cg := by omega
  have hq2 : cg < lo := by omega
  have hq3 : lo ≤ w2.heap.size := by omega
  have hq4 : w2.heap.size < w3.heap.size := by omega
  have hq5 : w.heap.size < wa.heap.size := by omega
  have hq6 : wa.heap.size ≤ w2.heap.size := by omega
  clear hcg hlo hz0 hza hz2 hz3
  refine wp_region_chain (by kernel_rfl) [none, none, none, some 5, none, none, none, none, none, none, none, some 0, some 1, some 2, some 3] 4 (by kernel_rfl) (by kernel_rfl) (by kernel_rfl) (by simp) _ rfl [3] (by kernel_rfl) ((fun _ _ => True)) (fun i v w' => match i with | 0 => v = .agg #[.int .i64 rn, .slice a n1 k, .slice b n2 m2] | 1 => v = .pointer (some ⟨cg, 0, none⟩) | 2 => v = .agg #[.int .i64 rn, .slice a n1 k, .slice b n2 m2] | _ => True) (JN cg 400 w3.heap.size w3) ?_ (fun u => ⟨(kept0 ((Below.refl w3.heap.size w3).drew)).mono fun _ f => f.elim, (hc3.more (by omega)).below ((Below.refl _ _).drew)⟩) ?_ ?_ ?_
  · intro i v w1 w2 hR hS
    rcases i with _ | _ | _ | _ | i
    · exact hR
    · exact hR
    · exact hR
    · exact hR
    · exact hR
  · intro i o ho hi hic s u ww hI hd hq hs hnu
    rcases i with _ | _ | _ | _ | i
    all_goals try obtain rfl := Option.some.inj ho
    all_goals try simp only [putAll, fillL]
    · have hkw := hI.kk
      have x0 := kcell hkw x0 (by omega)
      have x1 := kcell hkw x1 (by omega)
      have x2 := kcell hkw x2 (by omega)
      have hsw := hkw.size
      go_wp2
      exact ⟨_, rfl, trivial, hI.upd 0 (by decide) _, rfl⟩
    · have hkw := hI.kk
      have x0 := kcell hkw x0 (by omega)
      have x1 := kcell hkw x1 (by omega)
      have x2 := kcell hkw x2 (by omega)
      have hsw := hkw.size
      go_wp2
      exact ⟨_, rfl, trivial, hI.upd 1 (by decide) _, rfl⟩
    · have hkw := hI.kk
      have x0 := kcell hkw x0 (by omega)
      have x1 := kcell hkw x1 (by omega)
      have x2 := kcell hkw x2 (by omega)
      have hsw := hkw.size
      go_wp2
      exact ⟨_, rfl, trivial, hI.upd 2 (by decide) _, rfl⟩
    · exact absurd (by decide) hic
    · omega
  · intro s o hs ho u ww hI hd
    rcases s with _ | s
    all_goals try obtain rfl := Option.some.inj ho
    all_goals try simp only [putAll, fillL]
    · have e1 : u 1 = .pointer (some ⟨cg, 0, none⟩) := hd 1 (by decide) (by decide)
      rw [e1]
      have e2 : u 2 = .agg #[.int .i64 rn, .slice a n1 k, .slice b n2 m2] := hd 2 (by decide) (by decide)
      rw [e2]
      have hkw := hI.kk
      have x0 := kcell hkw x0 (by omega)
      have x1 := kcell hkw x1 (by omega)
      have x2 := kcell hkw x2 (by omega)
      have hsw := hkw.size
      obtain ⟨-, hcw⟩ := hI
      go_wp2_with fail
      refine (c_numbers7 cg _ _ r _ hcw (by omega) (hG.off hkw fun k e => by omega).rd).mono ?_
      rintro e wn ⟨vn, xs, rfl, hvn, hxl, -, hkn⟩
      go_wp2
      exact ⟨_, by simp only [putAll, fillL, e1, e2] <;> rfl, trivial, hkw.trans hkn, xs, hvn.mono hsw, hxl⟩
    · first | omega | (simp at hs <;> omega)
  · intro u w4 hI hV
    simp only [putAll, fillL]
    have e0 : u 0 = .agg #[.int .i64 rn, .slice a n1 k, .slice b n2 m2] := hV 0 (by decide) (by decide)
    rw [e0]
    try simp only [List.getElem_toArray, List.getElem_cons_succ, List.getElem_cons_zero]
    change wpList _ _ _ [_, _] _ _
    obtain ⟨hk4, xs, hO, hxl⟩ := hI
    clear hV
    replace hG := hG.off hk4 fun k e => by omega
    obtain ⟨a3, k3, e3, -, -⟩ := hO.ints.out
    obtain ⟨n3, hn3⟩ : ∃ n, n = xs.length := ⟨_, rfl⟩
    rw [← hn3] at e3
    replace hn3 := Lib.hid hn3
    replace hO : OwnI w4 lo (u 3) xs := OwnI.mono hO (by omega)
    rw [e3] at hO ⊢
    have hkz := hk3.trans hk4
    clear hk3 hk4 hSR hc3 x0 x1 x2 e3
    have pz := (hkz.block w.heap.size (by omega) (by omega)).trans p0
    obtain ⟨⟨c0, c1, c2⟩, g0, g1, g2⟩ := blk3 pz
    obtain ⟨⟨q0, q1, q2⟩, hk4⟩ := stored3 pz (.int .i64 rn) (.slice a n1 k) (.slice b n2 m2)
    replace q0 := Lib.hid q0
    replace q1 := Lib.hid q1
    replace q2 := Lib.hid q2
    have hfin := Lib.hid (And.intro ((hG.off hk4 fun k e => by omega).mono (show w.heap.size ≤ lo by omega)) (And.intro ((own_off2 hO hk4 (fun k e => by omega)).mono (show w.heap.size ≤ lo by omega)) ((keptc (hk00.trans (hkz.mono fun k (e : k = cg) => (.inl e : k = cg ∨ k = w.heap.size))) hk4 fun k e1 e2 => by omega).below (B := w.heap.size) (fun k e => by omega) (by omega))))
    clear pz p0 hG hO hk4
    go_wp2
    refine bodyPost_ret (v := .tuple #[.agg #[.int .i64 rn, .slice a n1 k, .slice b n2 m2], .slice a3 n3 k3]) (by simp [results, Try.results47, go_sem, q0.out, q1.out, q2.out]) rfl (by first | exact ⟨_, _, _, _, rfl, hfin.out.1, hfin.out.2.1, hfin.out.2.2⟩ | exact ⟨_, _, rfl, ⟨_, hfin.out.1⟩, ⟨_, hfin.out.2.1⟩, hfin.out.2.2⟩ | exact ⟨_, _, ⟨rfl, rfl⟩, ⟨_, hfin.out.1⟩, ⟨_, hfin.out.2.1⟩, hfin.out.2.2⟩)
end Go.Proofs.Ytiidphlfpiaoeaa
