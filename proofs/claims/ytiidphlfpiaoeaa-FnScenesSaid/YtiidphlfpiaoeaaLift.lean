/- Contexts with greater events; conditions: none. -/
import Derived.Test.YtiidphlfpiaoeaaKeptI
namespace Go.Proofs.Ytiidphlfpiaoeaa
open Go.RowKit

def addL (n : Int) (xss : List (List Int)) : List (List Int) := xss.map fun r => r.map (· + n)
theorem addL_zero (xss : List (List Int)) : addL 0 xss = xss := by simp [addL]
theorem addL_len (n : Int) (xss : List (List Int)) : (addL n xss).length = xss.length := by simp [addL]
theorem addL_tot (n : Int) (xss : List (List Int)) : totR (addL n xss) = totR xss := by simp [addL, totR, Function.comp_def]
/-- contexts of few events -/
def CtxOk (xss : List (List Int)) : Prop := xss.length ≤ 20 ∧ ∀ r ∈ xss, r.length ≤ 12 ∧ ∀ e ∈ r, 0 ≤ e ∧ e ≤ 12
theorem scene_ctxOk {s : SceneD} (hs : sceneB s = true) : CtxOk s.c := by
  obtain ⟨n, e, hn⟩ := scene_n hs
  refine ⟨by have := (scene_len hs).1; omega, fun r hr => ?_⟩
  obtain ⟨k, hk, rfl⟩ := List.getElem_of_mem hr
  have h1 := (scene_ctx hs k hk).2
  rw [e] at h1
  refine ⟨Nat.le_trans (risB_len h1) hn, fun q hq => ?_⟩
  have := risB_mem h1 q hq
  omega
theorem ctxOk_tot {xss : List (List Int)} (h : CtxOk xss) : xss.length + totR xss ≤ 1000 := by
  obtain ⟨h1, h2⟩ := h
  have : ∀ n : Nat, xss.length ≤ n → totR xss ≤ n * 12 := by
    clear h1
    induction xss with
    | nil => intro n _; simp [totR]
    | cons r xss ih =>
      intro n hn
      simp only [List.length_cons] at hn
      have := ih (fun r' hr => h2 r' (by simp [hr])) (n - 1) (by omega)
      have := (h2 r (by simp)).1
      simp only [totR, List.map_cons, List.sum_cons] at *
      have e : n = n - 1 + 1 := by omega
      rw [e, Nat.add_mul]
      omega
  have := this 20 h1
  omega

set_option maxRecDepth 100000 in
set_option maxHeartbeats 2000000 in
theorem c_l7Lists (v : Value) (xss : List (List Int)) (n : Int) (w : World) (h : Rows2 w v xss) (hx : CtxOk xss) (hn : 0 ≤ n ∧ n ≤ 12) :
    Calls Try.prog 59 #[v, .int .i64 n] w fun e w' => ∃ v', e = .returned v' ∧ OwnR w' w.heap.size (fun k => w.heap.size ≤ k ∧ k < w'.heap.size) v' (addL n xss) ∧ Below w.heap.size w w' := by
  obtain ⟨ad, cap, rfl, hl⟩ := h.out
  obtain ⟨x20, hx2⟩ := hx
  replace hx2 := Lib.hid hx2
  go_enter Try.func59, Try.ntmps59
  go_wp2_with fail
  go_loopw [5, 6] (fun v j wr => ∃ k : Nat, k ≤ xss.length ∧ j = .int .i64 k ∧ OwnR wr w.heap.size (fun k => w.heap.size ≤ k ∧ k < wr.heap.size) v (addL n (xss.take k)) ∧ Below w.heap.size w wr) (fun _ j _ => xss.length - (intOf j).toNat)
  case atStart => exact ⟨0, Nat.zero_le _, rfl, ownR_empty w _ (Nat.le_refl _), (Below.refl _ _).alloc (Nat.le_refl _) _⟩
  case round =>
    obtain ⟨k, hk, rfl, hown, hB⟩ := hrel
    have hsz := hB.size
    by_cases hlt : k < xss.length
    · obtain ⟨wo, rfl⟩ : ∃ wo : World, wo = wr := ⟨_, rfl⟩
      obtain ⟨bl, off, a0, c0, rfl, hb, hcell, hi⟩ := (h.below hB).at k hlt
      obtain ⟨x12, hxe⟩ := hx2.out xss[k] (List.getElem_mem hlt)
      obtain ⟨c, hcx⟩ : ∃ c, c = xss[k] := ⟨_, rfl⟩
      rw [← hcx] at hcell hi x12 hxe
      replace hcx := Lib.hid hcx
      replace hxe := Lib.hid hxe
      have hd : decide ((k : Int) < (xss.length : Int)) = true := by simp; omega
      go_wp2
      go_loopw [7, 8] (fun v j wr => ∃ i : Nat, i ≤ c.length ∧ j = .int .i64 i ∧ OwnI wr wo.heap.size v ((c.take i).map (· + n)) ∧ Below wo.heap.size wo wr) (fun _ j _ => c.length - (intOf j).toNat)
      case atStart => exact ⟨0, Nat.zero_le _, rfl, own_empty _ _ (Nat.le_refl _), (Below.refl _ _).alloc (Nat.le_refl _) _⟩
      case round =>
        obtain ⟨i, hi', rfl, hrow, hBo⟩ := hrel
        have hszo := hBo.size
        have hcellr := ((bcell hBo).1 _ _ hb).trans hcell
        have hbr : bl < wr.heap.size := by omega
        by_cases hlti : i < c.length
        · obtain ⟨bi, oi, rfl, hbi, hcelli⟩ := (hi.below hBo).at i hlti
          obtain ⟨e0, e1⟩ := hxe.out c[i] (List.getElem_mem hlti)
          have hF : Hid ((c.take (i + 1)).map (· + n) = (c.take i).map (· + n) ++ [c[i] + n]) := Lib.hid (by rw [List.take_succ_eq_append_getElem hlti, List.map_append]; rfl)
          go_wp2_with (at_builtin; refine wp_append_int _ _ rfl _ _ rfl wo.heap.size _ _ rfl hrow rfl (by first | rfl | simp) (by simp; omega) hszo ?_; intro v' w4 hrow2 _ hB2 _)
          rw [← hF.out] at hrow2
          go_roundw
          case rel => exact ⟨i + 1, by omega, by go_num, hrow2, hBo.trans hB2⟩
          case measure => simp [intOf]; omega
        · obtain rfl : i = c.length := by omega
          have hown' := hown.below hBo
          rw [List.take_length] at hrow
          have hF : Hid (addL n (xss.take (k + 1)) = addL n (xss.take k) ++ [c.map (· + n)]) := Lib.hid (by rw [List.take_succ_eq_append_getElem hlt, hcx.out]; simp only [addL, List.map_append, List.map_cons, List.map_nil])
          obtain ⟨a6, c6, rfl, -, -⟩ := hrow.ints.out
          rw [List.length_map] at hrow
          have ht20 : (addL n (xss.take k)).length < 1099511627776 := by rw [addL_len]; simp; omega
          go_wp2_with (at_builtin; refine wp_append_row _ _ rfl _ _ rfl w.heap.size _ _ _ rfl hown' (c.map (· + n)) (hrow.mono hsz) (fun g hg hf => by have a := OwnS.lt hrow g hg; have b := hf.2; omega) rfl (by first | rfl | simp) ht20 (by omega) ?_; intro v' w2 hown2 _ hB2 _)
          rw [← hF.out] at hown2
          go_roundw
          case rel => exact ⟨k + 1, by omega, by go_num, hown2, (bstep hB hBo).trans hB2⟩
          case measure => simp [intOf]; omega
    · obtain rfl : k = xss.length := by omega
      go_wp2
      go_ret
      exact ⟨_, rfl, by simpa using hown, hB⟩

set_option maxRecDepth 100000 in
set_option maxHeartbeats 2000000 in
theorem c_shifted (v : Value) (s : SceneD) (n : Int) (w : World) (h : SceneR w v s) (hx : CtxOk s.c) (hn : 0 ≤ n ∧ n ≤ 12) :
    Calls Try.prog 62 #[v, .int .i64 n] w fun e w' => ∃ v', e = .returned v' ∧ OwnR w' w.heap.size (fun k => w.heap.size ≤ k ∧ k < w'.heap.size) v' (addL n s.c) ∧ Below w.heap.size w w' := by
  obtain ⟨v1, v2, rfl, hc, hsu⟩ := id h
  obtain ⟨a1, k1, rfl, l1⟩ := hc.out
  obtain ⟨a2, k2, rfl, l2, -⟩ := hsu.out
  have hA := (Below.refl w.heap.size w).alloc (Nat.le_refl _) (.cells #[.int .i64 s.n, .slice a1 s.c.length k1, .slice a2 s.s.length k2] 27)
  obtain ⟨x20, hx2⟩ := hx
  replace hx2 := Lib.hid hx2
  have hown0 : OwnR ((w.alloc (.cells #[.int .i64 s.n, .slice a1 s.c.length k1, .slice a2 s.s.length k2] 27)).alloc (.cells #[] 23)) w.heap.size (fun k => w.heap.size ≤ k ∧ k < ((w.alloc (.cells #[.int .i64 s.n, .slice a1 s.c.length k1, .slice a2 s.s.length k2] 27)).alloc (.cells #[] 23)).heap.size) (.slice (some ⟨w.heap.size + 1, 0, none⟩) 0 0) [] := by
    have h := ownR_empty (w.alloc (.cells #[.int .i64 s.n, .slice a1 s.c.length k1, .slice a2 s.s.length k2] 27)) w.heap.size (by simp)
    simp only [World.size_alloc] at h ⊢
    exact h
  have hA1 := hA.alloc (by simp) (.cells #[] 23)
  go_enter Try.func62, Try.ntmps62
  go_wp2_with fail
  go_loopw [5, 15] (fun v j wr => ∃ k : Nat, k ≤ s.c.length ∧ j = .int .i64 k ∧ OwnR wr w.heap.size (fun k => w.heap.size ≤ k ∧ k < wr.heap.size) v (addL n (s.c.take k)) ∧ Below w.heap.size w wr) (fun _ j _ => s.c.length - (intOf j).toNat)
  case atStart => exact ⟨0, Nat.zero_le _, rfl, hown0, hA1⟩
  case round =>
    clear hown0 hA1
    obtain ⟨k, hk, rfl, hown, hB⟩ := hrel
    have hsz := hB.size
    by_cases hlt : k < s.c.length
    · obtain ⟨wo, rfl⟩ : ∃ wo : World, wo = wr := ⟨_, rfl⟩
      obtain ⟨bl, off, a0, c0, rfl, hb, hcell, hi⟩ := (hc.below hB).at k hlt
      obtain ⟨x12, hxe⟩ := hx2.out s.c[k] (List.getElem_mem hlt)
      obtain ⟨c, hcx⟩ : ∃ c, c = s.c[k] := ⟨_, rfl⟩
      rw [← hcx] at hcell hi x12 hxe
      replace hcx := Lib.hid hcx
      replace hxe := Lib.hid hxe
      have hd : decide ((k : Int) < (s.c.length : Int)) = true := by simp; omega
      go_wp2
      go_loopw [8, 22] (fun v j wr => ∃ i : Nat, i ≤ c.length ∧ j = .int .i64 i ∧ OwnI wr wo.heap.size v ((c.take i).map (· + n)) ∧ Below wo.heap.size wo wr) (fun _ j _ => c.length - (intOf j).toNat)
      case atStart => exact ⟨0, Nat.zero_le _, rfl, own_empty _ _ (Nat.le_refl _), (Below.refl _ _).alloc (Nat.le_refl _) _⟩
      case round =>
        obtain ⟨i, hi', rfl, hrow, hBo⟩ := hrel
        have hszo := hBo.size
        by_cases hlti : i < c.length
        · obtain ⟨bi, oi, rfl, hbi, hcelli⟩ := (hi.below hBo).at i hlti
          obtain ⟨e0, e1⟩ := hxe.out c[i] (List.getElem_mem hlti)
          have hF : Hid ((c.take (i + 1)).map (· + n) = (c.take i).map (· + n) ++ [c[i] + n]) := Lib.hid (by rw [List.take_succ_eq_append_getElem hlti, List.map_append]; rfl)
          go_wp2_with (at_builtin; refine wp_append_int _ _ rfl _ _ rfl wo.heap.size _ _ rfl hrow rfl (by first | rfl | simp) (by simp; omega) hszo ?_; intro v' w4 hrow2 _ hB2 _)
          rw [← hF.out] at hrow2
          go_roundw
          case rel => exact ⟨i + 1, by omega, by go_num, hrow2, hBo.trans hB2⟩
          case measure => simp [intOf]; omega
        · obtain rfl : i = c.length := by omega
          have hown' := hown.below hBo
          rw [List.take_length] at hrow
          have hF : Hid (addL n (s.c.take (k + 1)) = addL n (s.c.take k) ++ [c.map (· + n)]) := Lib.hid (by rw [List.take_succ_eq_append_getElem hlt, hcx.out]; simp only [addL, List.map_append, List.map_cons, List.map_nil])
          obtain ⟨a6, c6, rfl, -, -⟩ := hrow.ints.out
          rw [List.length_map] at hrow
          have ht20 : (addL n (s.c.take k)).length < 1099511627776 := by rw [addL_len]; simp; omega
          go_wp2_with (at_builtin; refine wp_append_row _ _ rfl _ _ rfl w.heap.size _ _ _ rfl hown' (c.map (· + n)) (hrow.mono hsz) (fun g hg hf => by have a := OwnS.lt hrow g hg; have b := hf.2; omega) rfl (by first | rfl | simp) ht20 (by omega) ?_; intro v' w2 hown2 _ hB2 _)
          rw [← hF.out] at hown2
          go_roundw
          case rel => exact ⟨k + 1, by omega, by go_num, hown2, (bstep hB hBo).trans hB2⟩
          case measure => simp [intOf]; omega
    · obtain rfl : k = s.c.length := by omega
      go_wp2
      go_ret
      exact ⟨_, rfl, by simpa using hown, hB⟩
end Go.Proofs.Ytiidphlfpiaoeaa
