/- The rank of a scene: the program's side; conditions: none. -/
import Derived.Test.YtiidphlfpiaoeaaRkL
import Derived.Test.YtiidphlfpiaoeaaProof
namespace Go.Proofs.Ytiidphlfpiaoeaa
open Go.RowKit

theorem wp_append_uintB {ops : Array Oper} {rest : List Oper} {o : Oper} {a : Act} {Q : Exit → Act → World → Prop} (w : World) (n : Nat) (hgd : o.guard = none) (s x : Operand)
    (ho : o.op = .call { callee := .builtin .append, args := #[s, x], argTypes := #[72, 72] }) (B : Nat) (v : Value) (xs : List Nat) (hs : a.eval s = v) (hown : OwnUs w B v xs)
    {g : Nat} (hx : a.eval x = .slice (some ⟨g, 0, none⟩) 1 1) (hg : g = w.heap.size) (hlen : xs.length < 1099511627776) (hB : B ≤ w.heap.size)
    (h : ∀ v' w', OwnUs w' B v' (xs ++ [n]) → w.grownBy w' v.ownBlock → (v'.ownBlock = v.ownBlock ∨ v'.ownBlock = some (w.heap.size + 1)) → wpList Try.prog ops Q rest (a.put o.dst v') w') :
    wpList Try.prog ops Q (o :: rest) a (w.alloc (.cells #[.int .u64 (n : Int)] 74)) := by
  subst hg
  obtain ⟨i0, hi, hz0, hz1, hz2⟩ := info_parts info_uint
  have hal := World.grownBy_alloc w (.cells #[.int .u64 (n : Int)] 74) none
  refine wpList_append_own_at _ hgd s x 72 ho B 74 i0 (.int .u64 0) 1 8 Try.underlying72 hi hz0 hz1 hz2 rfl (by decide) v xs.length (xs.map uv) hs (by simpa using hown.1.alloc _) ⟨w.heap.size, 0, none⟩ 1 1 [.int .u64 (n : Int)] hx rfl ?_ ?_
    (by unfold maxLen; omega) (by omega) (by simp; omega) fun v' w' h1 h2 h3 h4 => ?_
  · intro j u hu
    rw [Addr.add_lit, World.cell?_alloc_at _ _ _ _ rfl]
    cases j with
    | zero => simpa using hu
    | succ j => simp at hu
  · intro u hu; simp at hu; subst hu; rfl
  · exact h v' w' ⟨by simpa [uv] using h1, by simp; omega⟩ (grown_trans hal h2) (by simpa using h4)

def rankS (s : SceneD) : Nat := (basN (masksL s)).length
def rankV (s : SceneD) : Int := if sceneB s then (rankS s : Int) else 0
theorem step_lt {m r : Nat} (hm : m < 4096) : stepN m r < 4096 := by unfold stepN; omega
theorem redN_lt (R : List Nat) (m : Nat) (hm : m < 4096) : redN R m < 4096 := by
  unfold redN
  induction R generalizing m with
  | nil => exact hm
  | cons r R ih => exact ih _ (step_lt hm)
theorem addN_lt {R : List Nat} {m : Nat} (hR : ∀ r ∈ R, r < 4096) (hm : m < 4096) : ∀ r ∈ addN R m, r < 4096 := by
  unfold addN
  split
  · exact hR
  · intro r hr
    rcases List.mem_append.1 hr with h | h
    · exact hR r h
    · have : r = redN R m := by simpa using h
      subst this
      exact redN_lt _ _ hm
theorem addN_len (R : List Nat) (m : Nat) : (addN R m).length ≤ R.length + 1 := by
  unfold addN
  split
  · omega
  · simp
theorem bas_prefix (X : List Nat) (hX : ∀ x ∈ X, x < 4096) (k : Nat) : (∀ r ∈ (X.take k).foldl addN [], r < 4096) ∧ ((X.take k).foldl addN []).length ≤ k := by
  induction k with
  | zero => simp
  | succ k ih =>
    by_cases h : k < X.length
    · rw [List.take_succ_eq_append_getElem h, List.foldl_append]
      simp only [List.foldl_cons, List.foldl_nil]
      have := addN_len ((X.take k).foldl addN []) X[k]
      exact ⟨addN_lt ih.1 (hX _ (List.getElem_mem h)), by omega⟩
    · have e : X.take (k + 1) = X.take k := by rw [List.take_of_length_le (by omega), List.take_of_length_le (by omega)]
      rw [e]
      exact ⟨ih.1, by omega⟩
theorem masks_lt {s : SceneD} (hs : sceneB s = true) : ∀ x ∈ masksL s, x < 4096 := by
  intro x hx
  obtain ⟨i, hi, rfl⟩ := List.getElem_of_mem hx
  have := mask_lt hs i
  rwa [show (masksL s).getD i 0 = (masksL s)[i] by simp [List.getD, hi]] at this

set_option maxRecDepth 100000 in
set_option maxHeartbeats 4000000 in
theorem c_impl_RankOfScene (v : Value) (s : SceneD) (w : World) (h : SceneR w v s) :
    Calls Try.prog 21 #[v] w fun e w' => e = .returned (.tuple #[.int .i64 (rankV s), .bool (sceneB s)]) ∧ Below w.heap.size w w' := by
  obtain ⟨v1, v2, rfl, hc, hsu⟩ := id h
  obtain ⟨a1, k1, rfl, l1⟩ := hc.out
  obtain ⟨a2, k2, rfl, l2, -⟩ := hsu.out
  have hA := (Below.refl w.heap.size w).alloc (Nat.le_refl _) (.cells #[.int .i64 s.n, .slice a1 s.c.length k1, .slice a2 s.s.length k2] 27)
  cases hs : sceneB s
  · have hF : Hid (rankV s = 0) := Lib.hid (by simp [rankV, hs])
    replace hs := Lib.hid hs
    go_enter Try.func21, Try.ntmps21
    go_wp2_with fail
    refine (c_impl_IsScene _ s _ (h.below hA)).mono ?_
    rintro e w1 ⟨rfl, hb⟩
    rw [hs.out]
    have hA1 := hA.trans (hb.mono (by simp))
    go_wp2
    go_ret2
    exact ⟨by rw [hF.out]; rfl, hA1⟩
  · have hF : Hid (rankV s = (rankS s : Int)) := Lib.hid (by simp [rankV, hs])
    obtain ⟨n10, -, -⟩ := scene_len hs
    have hml : Hid ((masksL s).length = s.c.length) := Lib.hid (by simp [masksL])
    have hmx := Lib.hid (masks_lt hs)
    have hbp := Lib.hid (bas_prefix (masksL s) (masks_lt hs))
    have hRS : Hid (rankS s = ((masksL s).foldl addN []).length) := Lib.hid rfl
    replace hs := Lib.hid hs
    go_enter Try.func21, Try.ntmps21
    go_wp2_with fail
    refine (c_impl_IsScene _ s _ (h.below hA)).mono ?_
    rintro e w0 ⟨rfl, hb⟩
    rw [hs.out]
    have pB : w0.heap[w.heap.size]? = some (.cells #[.int .i64 s.n, .slice a1 s.c.length k1, .slice a2 s.s.length k2] 27 (0, 0)) := blk_later hb (heap_alloc_at rfl)
    have hA1 := hA.trans (hb.mono (by simp))
    have hlb := (Array.getElem?_eq_some_iff.1 pB).1
    obtain ⟨⟨z0, z1, z2⟩, -⟩ := blk3 pB
    clear hb
    have hA2 : Below w.heap.size w (w0.alloc (.cells #[] 74)) := hA1.alloc (by omega) _
    have hown0 := ownUs_empty w0 w0.heap.size (Nat.le_refl _)
    go_wp2_with fail
    refine (c_masks _ s _ (h.below hA2) hs.out).mono ?_
    rintro e w1 ⟨vm, rfl, hvm, hb1⟩
    replace hown0 := hown0.below hb1
    have hz1 := hb1.size
    simp only [World.size_alloc] at hz1 hvm
    have hall0 : Below w.heap.size w w1 := bstep hA2 hb1
    obtain ⟨am, cm, rfl, hlm⟩ := hvm.out
    rw [hml.out] at hvm ⊢
    obtain ⟨X, hX⟩ : ∃ X, X = masksL s := ⟨_, rfl⟩
    rw [← hX] at hvm hbp hml hmx hRS
    replace hX := Lib.hid hX
    clear hb1 z0 z1 z2 pB hA1 hA2
    go_wp2_with fail
    go_loopw [4, 16] (fun v j wr => ∃ k : Nat, k ≤ s.c.length ∧ j = .int .i64 k ∧ OwnUs wr w0.heap.size v ((X.take k).foldl addN []) ∧ Hid (∀ g, v.ownBlock = some g → g = w0.heap.size ∨ w1.heap.size ≤ g) ∧ KeptOff (fun g => g = w0.heap.size) w1 wr) (fun _ j _ => s.c.length - (intOf j).toNat)
    case atStart => exact ⟨0, Nat.zero_le _, rfl, hown0, Lib.hid fun g e => by simp [Value.ownBlock] at e; omega, KeptOff.refl _ _⟩
    case round =>
      obtain ⟨k, hk, rfl, hown, hblk, hB⟩ := hrel
      have hsz := hB.size
      have hvr : OwnUs wr _ (.slice am s.c.length cm) X := OwnS.off hvm hB (fun g e e2 => by have := (OwnS.lt hvm g e).1; omega)
      obtain ⟨b1, b2⟩ := hbp.out k
      obtain ⟨R, hR⟩ : ∃ R, R = (X.take k).foldl addN [] := ⟨_, rfl⟩
      rw [← hR] at hown b1 b2
      by_cases hlt : k < s.c.length
      · have hmk : k < X.length := by have := hml.out; omega
        obtain ⟨bm, om, rfl, hbm, cm1⟩ := hvr.at k hmk
        have hxl := hmx.out X[k] (List.getElem_mem hmk)
        have hnext : Hid ((X.take (k + 1)).foldl addN [] = addN R X[k]) := Lib.hid (by rw [List.take_succ_eq_append_getElem hmk, List.foldl_append, hR]; rfl)
        obtain ⟨x, hx⟩ : ∃ x, x = X[k] := ⟨_, rfl⟩
        rw [← hx] at cm1 hxl hnext
        replace hx := Lib.hid hx
        replace hR := Lib.hid hR
        obtain ⟨aR, cR, rfl, hlR⟩ := hown.out
        replace b1 := Lib.hid b1
        go_wp2_with fail
        go_loop [6, 22] (fun m i => ∃ q : Nat, q ≤ R.length ∧ i = .int .i64 q ∧ m = .int .u64 (((R.take q).foldl stepN x : Nat) : Int)) (fun _ i => R.length - (intOf i).toNat)
        case atStart => exact ⟨0, Nat.zero_le _, rfl, rfl⟩
        case round =>
          obtain ⟨q, hq, rfl, rfl⟩ := hrel
          have hy : redN (R.take q) x < 4096 := redN_lt _ _ hxl
          unfold redN at hy
          by_cases hqR : q < R.length
          · obtain ⟨bR, oR, eR, hbR, cR1⟩ := hown.at q hqR
            subst eR
            have hrl := b1.out R[q] (List.getElem_mem hqR)
            have hn2 : (R.take (q + 1)).foldl stepN x = stepN ((R.take q).foldl stepN x) R[q] := by rw [List.take_succ_eq_append_getElem hqR, List.foldl_append]; rfl
            obtain ⟨y, hy2⟩ : ∃ y, y = (R.take q).foldl stepN x := ⟨_, rfl⟩
            rw [← hy2] at hy hn2 ⊢
            obtain ⟨r, hr⟩ : ∃ r, r = R[q] := ⟨_, rfl⟩
            rw [← hr] at cR1 hrl hn2
            have hxr : y ^^^ r < 4096 := Nat.xor_lt_two_pow (n := 12) hy hrl
            have hG : bits .xor .u64 (y : Int) (r : Int) = ((y ^^^ r : Nat) : Int) := u64_xor_nat _ _ (by omega) (by omega)
            have hM : Hid (((stepN y r : Nat) : Int) = if y ^^^ r < y then ((y ^^^ r : Nat) : Int) else (y : Int)) := Lib.hid (by unfold stepN; split <;> omega)
            replace hn2 := Lib.hid hn2
            replace hr := Lib.hid hr
            replace hy2 := Lib.hid hy2
            go_wp2
            go_round
            case rel => exact ⟨q + 1, by omega, by go_num, by rw [hn2.out, hM.out]⟩
            case measure => simp [intOf]; omega
          · obtain rfl : q = R.length := by omega
            rw [List.take_length] at hy ⊢
            obtain ⟨y, hy2⟩ : ∃ y, y = R.foldl stepN x := ⟨_, rfl⟩
            rw [← hy2] at hy ⊢
            cases h0 : ((y : Int) != 0)
            · have hsame : Hid (addN R x = R) := Lib.hid (by unfold addN redN; rw [← hy2, if_pos (by simpa using h0)])
              go_wp2
              go_roundw
              case rel => exact ⟨k + 1, by omega, by go_num, by rw [hnext.out, hsame.out]; exact hown, hblk, hB⟩
              case measure => simp [intOf]; omega
            · have hmore : Hid (addN R x = R ++ [y]) := Lib.hid (by unfold addN redN; rw [← hy2, if_neg (by simpa using h0)])
              replace hy2 := Lib.hid hy2
              go_wp2_with (at_builtin; refine wp_append_uintB _ y rfl _ _ rfl w0.heap.size _ _ rfl hown rfl (by first | rfl | simp) (by omega) (by omega) ?_; intro v' w2 hown2 hgr hbl)
              rw [← hmore.out, ← hnext.out] at hown2
              have hgs : wr.heap.size ≤ w2.heap.size := hgr.size
              replace hbl : _ ∨ v'.ownBlock = some (wr.heap.size + 1) := hbl
              go_roundw
              case rel =>
                refine ⟨k + 1, by omega, by go_num, hown2, Lib.hid fun g e => ?_, hgr.os.trans hB.os, hgr.tape.trans hB.tape, hgr.output.trans hB.output, by omega, fun q hq1 hq2 => (hgr.block q (show q < wr.heap.size by omega) fun e => ?_).trans (hB.block q hq1 hq2)⟩
                · rcases hbl with hh | hh
                  · rw [hh] at e; exact hblk.out g e
                  · rw [hh] at e; cases e; omega
                · have := hblk.out q e.symm
                  omega
              case measure => simp [intOf]; omega
      · obtain rfl : k = s.c.length := by omega
        have hfin : Hid (rankV s = (R.length : Int)) := Lib.hid (by rw [hF.out, hRS.out, hR, List.take_of_length_le (by rw [hml.out]; exact Nat.le_refl _)])
        replace hR := Lib.hid hR
        obtain ⟨aR, cR, rfl, hlR⟩ := hown.out
        have hall : Below w.heap.size w wr := hall0.trans (hB.below (fun g e => by omega) (by omega))
        go_wp2
        go_ret2
        exact ⟨by rw [hfin.out]; rfl, hall⟩
theorem c_spec_IsScene (v : Value) (s : SceneD) (w : World) (h : SceneR w v s) :
    Calls Try.prog 31 #[v] w fun e w' => e = .returned (.bool (sceneB s)) ∧ Below w.heap.size w w' := by
  obtain ⟨v1, v2, rfl, hc, hsu⟩ := id h
  obtain ⟨a1, k1, rfl, l1⟩ := hc.out
  obtain ⟨a2, k2, rfl, l2, -⟩ := hsu.out
  have hA := (Below.refl w.heap.size w).alloc (Nat.le_refl _) (.cells #[.int .i64 s.n, .slice a1 s.c.length k1, .slice a2 s.s.length k2] 27)
  go_enter Try.func31, Try.ntmps31
  go_wp2_with fail
  refine (c_l7Good _ s _ (h.below hA)).mono ?_
  rintro e w1 ⟨rfl, hb⟩
  have hA1 := bstep hA hb
  go_wp2
  go_ret
  exact ⟨rfl, hA1⟩
end Go.Proofs.Ytiidphlfpiaoeaa
