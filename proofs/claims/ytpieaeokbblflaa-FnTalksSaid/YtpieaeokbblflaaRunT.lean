/- The contracts of RunTalk and TalkBits on both sides; conditions: none. -/
import Derived.Test.YtpieaeokbblflaaRunI
namespace Go.Proofs.Ytpieaeokbblflaa
open Go.RowKit

def runB (r : TalkD) (rows cols i j : Int) : Bool := validB r rows cols && (inB 0 (rows - 1) i && inB 0 (cols - 1) j)
def runSL (r : TalkD) (rows cols i j : Int) : List Int := if runB r rows cols i j then runL r i.toNat j.toNat else []
def runSE (r : TalkD) (rows cols i j : Int) : Int := if runB r rows cols i j then runE r i.toNat j.toNat else 0
theorem run_no {r : TalkD} {rows cols i j : Int} (h : runB r rows cols i j = false) : runSL r rows cols i j = [] ∧ runSE r rows cols i j = 0 := by simp [runSL, runSE, h]
theorem run_yes {r : TalkD} {rows cols i j : Int} (h : runB r rows cols i j = true) : runSL r rows cols i j = runL r i.toNat j.toNat ∧ runSE r rows cols i j = runE r i.toNat j.toNat := by simp [runSL, runSE, h]
theorem valid_size {r : TalkD} {rows cols : Int} (h : validB r rows cols = true) : (1 ≤ rows ∧ rows ≤ 4) ∧ (1 ≤ cols ∧ cols ≤ 4) := by
  unfold validB sizeB at h
  simp only [Bool.and_eq_true, inB_iff] at h
  exact h.1

set_option maxHeartbeats 1000000 in
theorem c_spec_RunTalk (v : Value) (r : TalkD) (rows cols i j : Int) (w : World) (h : TalkR w v r) :
    Calls Try.prog 44 #[v, .int .i64 rows, .int .i64 cols, .int .i64 i, .int .i64 j] w fun e w' => ∃ v', e = .returned (.tuple #[v', .int .i64 (runSE r rows cols i j), .bool (runB r rows cols i j)]) ∧ OwnI w' w.heap.size v' (runSL r rows cols i j) ∧ Below w.heap.size w w' := by
  obtain ⟨v1, v2, v3, rfl, hp, hs, hx⟩ := id h
  obtain ⟨a1, k1, rfl, l1, -⟩ := hp.out
  obtain ⟨a2, k2, rfl, l2⟩ := hs.out
  obtain ⟨a3, k3, rfl, l3⟩ := hx.out
  have hA := (Below.refl w.heap.size w).alloc (Nat.le_refl _) (.cells #[.slice a1 r.p.length k1, .slice a2 r.s.length k2, .slice a3 r.x.length k3] 38)
  have pB : (w.alloc (.cells #[.slice a1 r.p.length k1, .slice a2 r.s.length k2, .slice a3 r.x.length k3] 38)).heap[w.heap.size]? = some (.cells #[.slice a1 r.p.length k1, .slice a2 r.s.length k2, .slice a3 r.x.length k3] 38 (0, 0)) := heap_alloc_at rfl
  cases hv : validB r rows cols
  · have hb : runB r rows cols i j = false := by unfold runB; rw [hv]; rfl
    obtain ⟨hF, hF2⟩ := run_no hb
    rw [hb]
    clear hb
    replace hF := Lib.hid hF
    replace hF2 := Lib.hid hF2
    replace hv := Lib.hid hv
    go_enter Try.func44, Try.ntmps44
    go_wp2_with fail
    refine (c_l8Valid _ r rows cols _ (h.below hA)).mono ?_
    rintro e w1 ⟨rfl, hb1⟩
    rw [hv.out]
    replace hA := hA.trans (hb1.mono (by simp))
    have hz := hA.size
    go_wp2
    refine bodyPost_ret (v := .tuple #[_, .int .i64 0, .bool false]) (by simp [results, Try.results44, go_sem] <;> rfl) rfl ⟨_, by rw [hF2.out], (by rw [hF.out]; exact own_empty _ _ hz), hA.alloc hz _⟩
  obtain ⟨n1, n2⟩ := valid_size hv
  cases hi : inB 0 (rows - 1) i
  · have hb : runB r rows cols i j = false := by unfold runB; rw [hv, hi]; rfl
    obtain ⟨hF, hF2⟩ := run_no hb
    rw [hb]
    clear hb
    replace hF := Lib.hid hF
    replace hF2 := Lib.hid hF2
    replace hv := Lib.hid hv
    replace hi := Lib.hid hi
    go_enter Try.func44, Try.ntmps44
    go_wp2_with fail
    refine (c_l8Valid _ r rows cols _ (h.below hA)).mono ?_
    rintro e w1 ⟨rfl, hb1⟩
    rw [hv.out]
    replace hA := hA.trans (hb1.mono (by simp))
    have hz := hA.size
    go_wp2_with fail
    refine (c_l1In _ _ _ _).mono ?_
    rintro e _ ⟨rfl, rfl⟩
    rw [hi.out]
    go_wp2
    refine bodyPost_ret (v := .tuple #[_, .int .i64 0, .bool false]) (by simp [results, Try.results44, go_sem] <;> rfl) rfl ⟨_, by rw [hF2.out], (by rw [hF.out]; exact own_empty _ _ hz), hA.alloc hz _⟩
  cases hj : inB 0 (cols - 1) j
  · have hb : runB r rows cols i j = false := by unfold runB; rw [hv, hi, hj]; rfl
    obtain ⟨hF, hF2⟩ := run_no hb
    rw [hb]
    clear hb
    replace hF := Lib.hid hF
    replace hF2 := Lib.hid hF2
    replace hv := Lib.hid hv
    replace hi := Lib.hid hi
    replace hj := Lib.hid hj
    go_enter Try.func44, Try.ntmps44
    go_wp2_with fail
    refine (c_l8Valid _ r rows cols _ (h.below hA)).mono ?_
    rintro e w1 ⟨rfl, hb1⟩
    rw [hv.out]
    replace hA := hA.trans (hb1.mono (by simp))
    have hz := hA.size
    go_wp2_with fail
    refine (c_l1In _ _ _ _).mono ?_
    rintro e _ ⟨rfl, rfl⟩
    rw [hi.out]
    go_wp2_with fail
    refine (c_l1In _ _ _ _).mono ?_
    rintro e _ ⟨rfl, rfl⟩
    rw [hj.out]
    go_wp2
    refine bodyPost_ret (v := .tuple #[_, .int .i64 0, .bool false]) (by simp [results, Try.results44, go_sem] <;> rfl) rfl ⟨_, by rw [hF2.out], (by rw [hF.out]; exact own_empty _ _ hz), hA.alloc hz _⟩
  have hb : runB r rows cols i j = true := by unfold runB; rw [hv, hi, hj]; rfl
  obtain ⟨hF, hF2⟩ := run_yes hb
  rw [hb]
  clear hb
  have i2 := inB_iff.1 hi
  have j2 := inB_iff.1 hj
  obtain ⟨I, rfl⟩ := Int.eq_ofNat_of_zero_le i2.1
  obtain ⟨J, rfl⟩ := Int.eq_ofNat_of_zero_le j2.1
  have hok := runOk (i := I) (j := J) hv (by omega) (by omega)
  rw [Int.toNat_natCast, Int.toNat_natCast] at hF hF2
  replace hok := Lib.hid hok
  replace hF := Lib.hid hF
  replace hF2 := Lib.hid hF2
  replace hv := Lib.hid hv
  replace hi := Lib.hid hi
  replace hj := Lib.hid hj
  go_enter Try.func44, Try.ntmps44
  go_wp2_with fail
  refine (c_l8Valid _ r rows cols _ (h.below hA)).mono ?_
  rintro e w1 ⟨rfl, hb1⟩
  rw [hv.out]
  replace pB := blk_later hb1 pB
  replace hA := hA.trans (hb1.mono (by simp))
  have hlb := (Array.getElem?_eq_some_iff.1 pB).1
  obtain ⟨⟨z0, z1, z2⟩, -⟩ := blk3 pB
  go_wp2_with fail
  refine (c_l1In _ _ _ _).mono ?_
  rintro e _ ⟨rfl, rfl⟩
  rw [hi.out]
  go_wp2_with fail
  refine (c_l1In _ _ _ _).mono ?_
  rintro e _ ⟨rfl, rfl⟩
  rw [hj.out]
  go_wp2_with fail
  refine (c_l8Run _ r I J _ (h.below hA) hok.out).mono ?_
  rintro e w2 ⟨v2, rfl, hv2, hb2⟩
  obtain ⟨ad2, c2, rfl, -, -⟩ := hv2.ints.out
  replace hv2 := hv2.mono hA.size
  replace hA := bstep hA hb2
  go_wp2
  refine bodyPost_ret (v := .tuple #[.slice ad2 (runL r I J).length c2, .int .i64 (runE r I J), .bool true]) (by simp [results, Try.results44, go_sem]) rfl ⟨_, by rw [hF2.out], by rw [hF.out]; exact hv2, hA⟩
set_option maxHeartbeats 1000000 in
theorem c_impl_RunTalk (v : Value) (r : TalkD) (rows cols i j : Int) (w : World) (h : TalkR w v r) :
    Calls Try.prog 43 #[v, .int .i64 rows, .int .i64 cols, .int .i64 i, .int .i64 j] w fun e w' => ∃ v', e = .returned (.tuple #[v', .int .i64 (runSE r rows cols i j), .bool (runB r rows cols i j)]) ∧ OwnI w' w.heap.size v' (runSL r rows cols i j) ∧ Below w.heap.size w w' := by
  obtain ⟨v1, v2, v3, rfl, hp, hs, hx⟩ := id h
  obtain ⟨a1, k1, rfl, l1, -⟩ := hp.out
  obtain ⟨a2, k2, rfl, l2⟩ := hs.out
  obtain ⟨a3, k3, rfl, l3⟩ := hx.out
  have hA := (Below.refl w.heap.size w).alloc (Nat.le_refl _) (.cells #[.slice a1 r.p.length k1, .slice a2 r.s.length k2, .slice a3 r.x.length k3] 38)
  have pB : (w.alloc (.cells #[.slice a1 r.p.length k1, .slice a2 r.s.length k2, .slice a3 r.x.length k3] 38)).heap[w.heap.size]? = some (.cells #[.slice a1 r.p.length k1, .slice a2 r.s.length k2, .slice a3 r.x.length k3] 38 (0, 0)) := heap_alloc_at rfl
  cases hv : validB r rows cols
  · have hb : runB r rows cols i j = false := by unfold runB; rw [hv]; rfl
    obtain ⟨hF, hF2⟩ := run_no hb
    rw [hb]
    clear hb
    replace hF := Lib.hid hF
    replace hF2 := Lib.hid hF2
    replace hv := Lib.hid hv
    go_enter Try.func43, Try.ntmps43
    go_wp2_with fail
    refine (c_isTalkV _ r rows cols _ (h.below hA)).mono ?_
    rintro e w1 ⟨rfl, hb1⟩
    rw [hv.out]
    replace hA := hA.trans (hb1.mono (by simp))
    have hz := hA.size
    go_wp2
    refine bodyPost_ret (v := .tuple #[_, .int .i64 0, .bool false]) (by simp [results, Try.results43, go_sem] <;> rfl) rfl ⟨_, by rw [hF2.out], (by rw [hF.out]; exact own_nil _ _), hA⟩
  obtain ⟨n1, n2⟩ := valid_size hv
  cases hi : inB 0 (rows - 1) i
  · have hb : runB r rows cols i j = false := by unfold runB; rw [hv, hi]; rfl
    obtain ⟨hF, hF2⟩ := run_no hb
    rw [hb]
    clear hb
    replace hF := Lib.hid hF
    replace hF2 := Lib.hid hF2
    replace hv := Lib.hid hv
    replace hi := Lib.hid hi
    go_enter Try.func43, Try.ntmps43
    go_wp2_with fail
    refine (c_isTalkV _ r rows cols _ (h.below hA)).mono ?_
    rintro e w1 ⟨rfl, hb1⟩
    rw [hv.out]
    replace hA := hA.trans (hb1.mono (by simp))
    have hz := hA.size
    go_wp2_with fail
    refine (c_within _ _ _ _).mono ?_
    rintro e _ ⟨rfl, rfl⟩
    rw [hi.out]
    go_wp2
    refine bodyPost_ret (v := .tuple #[_, .int .i64 0, .bool false]) (by simp [results, Try.results43, go_sem] <;> rfl) rfl ⟨_, by rw [hF2.out], (by rw [hF.out]; exact own_nil _ _), hA⟩
  cases hj : inB 0 (cols - 1) j
  · have hb : runB r rows cols i j = false := by unfold runB; rw [hv, hi, hj]; rfl
    obtain ⟨hF, hF2⟩ := run_no hb
    rw [hb]
    clear hb
    replace hF := Lib.hid hF
    replace hF2 := Lib.hid hF2
    replace hv := Lib.hid hv
    replace hi := Lib.hid hi
    replace hj := Lib.hid hj
    go_enter Try.func43, Try.ntmps43
    go_wp2_with fail
    refine (c_isTalkV _ r rows cols _ (h.below hA)).mono ?_
    rintro e w1 ⟨rfl, hb1⟩
    rw [hv.out]
    replace hA := hA.trans (hb1.mono (by simp))
    have hz := hA.size
    go_wp2_with fail
    refine (c_within _ _ _ _).mono ?_
    rintro e _ ⟨rfl, rfl⟩
    rw [hi.out]
    go_wp2_with fail
    refine (c_within _ _ _ _).mono ?_
    rintro e _ ⟨rfl, rfl⟩
    rw [hj.out]
    go_wp2
    refine bodyPost_ret (v := .tuple #[_, .int .i64 0, .bool false]) (by simp [results, Try.results43, go_sem] <;> rfl) rfl ⟨_, by rw [hF2.out], (by rw [hF.out]; exact own_nil _ _), hA⟩
  have hb : runB r rows cols i j = true := by unfold runB; rw [hv, hi, hj]; rfl
  obtain ⟨hF, hF2⟩ := run_yes hb
  rw [hb]
  clear hb
  have i2 := inB_iff.1 hi
  have j2 := inB_iff.1 hj
  obtain ⟨I, rfl⟩ := Int.eq_ofNat_of_zero_le i2.1
  obtain ⟨J, rfl⟩ := Int.eq_ofNat_of_zero_le j2.1
  have hok := runOk (i := I) (j := J) hv (by omega) (by omega)
  rw [Int.toNat_natCast, Int.toNat_natCast] at hF hF2
  replace hok := Lib.hid hok
  replace hF := Lib.hid hF
  replace hF2 := Lib.hid hF2
  replace hv := Lib.hid hv
  replace hi := Lib.hid hi
  replace hj := Lib.hid hj
  go_enter Try.func43, Try.ntmps43
  go_wp2_with fail
  refine (c_isTalkV _ r rows cols _ (h.below hA)).mono ?_
  rintro e w1 ⟨rfl, hb1⟩
  rw [hv.out]
  replace pB := blk_later hb1 pB
  replace hA := hA.trans (hb1.mono (by simp))
  have hlb := (Array.getElem?_eq_some_iff.1 pB).1
  obtain ⟨⟨z0, z1, z2⟩, -⟩ := blk3 pB
  go_wp2_with fail
  refine (c_within _ _ _ _).mono ?_
  rintro e _ ⟨rfl, rfl⟩
  rw [hi.out]
  go_wp2_with fail
  refine (c_within _ _ _ _).mono ?_
  rintro e _ ⟨rfl, rfl⟩
  rw [hj.out]
  go_wp2_with fail
  refine (c_run _ r I J _ (h.below hA) hok.out).mono ?_
  rintro e w2 ⟨v2, rfl, hv2, hb2⟩
  obtain ⟨ad2, c2, rfl, -, -⟩ := hv2.ints.out
  replace hv2 := hv2.mono hA.size
  replace hA := bstep hA hb2
  go_wp2
  refine bodyPost_ret (v := .tuple #[.slice ad2 (runL r I J).length c2, .int .i64 (runE r I J), .bool true]) (by simp [results, Try.results43, go_sem]) rfl ⟨_, by rw [hF2.out], by rw [hF.out]; exact hv2, hA⟩
end Go.Proofs.Ytpieaeokbblflaa
