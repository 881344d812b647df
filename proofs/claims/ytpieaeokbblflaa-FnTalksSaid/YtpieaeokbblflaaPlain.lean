/- Plain rectangles: the reference's side; conditions: none. -/
import Derived.Test.YtpieaeokbblflaaRising
import Derived.Test.YtpieaeokbblflaaTurn
namespace Go.Proofs.Ytpieaeokbblflaa
open Go.RowKit

theorem blk2 {w : World} {b : Nat} {v1 v2 : Value} {t : TypeId} (h : w.heap[b]? = some (.cells #[v1, v2] t (0, 0))) :
    (w.cell? ⟨b, 0, none⟩ = some v1 ∧ w.cell? ⟨b, 1, none⟩ = some v2) ∧ (w.frozen? ⟨b, 0, none⟩ = false ∧ w.frozen? ⟨b, 1, none⟩ = false) := by
  refine ⟨⟨?_, ?_⟩, ?_, ?_⟩ <;> simp [World.cell?, World.frozen?, h]
theorem risB_mem {lo hi : Int} {l : List Int} (h : risB lo hi l = true) : ∀ e ∈ l, lo ≤ e ∧ e ≤ hi := by
  intro e he
  obtain ⟨i, hi', rfl⟩ := List.getElem_of_mem he
  exact ⟨(risB_get h i hi').1, (risB_get h i hi').2.1⟩

/-- the number at a place -/
def entI (t : List (List Int)) (a b : Int) : Int := ent t a.toNat b.toNat
def rowOk (t : List (List Int)) (f : Int) (cols : List Int) (a : Int) : Bool := cols.all fun b => entI t a b == f
def firstE (t : List (List Int)) (rows cols : List Int) : Int := entI t (rows.getD 0 0) (cols.getD 0 0)
def plainS (t : List (List Int)) (rows cols : List Int) : Bool := rows.all (rowOk t (firstE t rows cols) cols)
/-- what the reference tells: the number of a plain rectangle, or -1 -/
def plainN (t : List (List Int)) (rows cols : List Int) : Int := if plainS t rows cols then firstE t rows cols else -1
def hasV (t : List (List Int)) (rows cols : List Int) (v : Int) : Bool := rows.any fun a => cols.any fun b => entI t a b == v
theorem ent_01 {t : List (List Int)} (ht : taskB t = true) (a b : Int) (ha : 0 ≤ a ∧ a < t.length) (hb : 0 ≤ b ∧ b < wid t) : entI t a b = 0 ∨ entI t a b = 1 := by
  obtain ⟨-, -, h3, h4⟩ := taskB_yes ht
  have h1 : a.toNat < t.length := by omega
  have h2 : b.toNat < t[a.toNat].length := by rw [h3 _ h1]; omega
  have := h4 _ h1 _ h2
  rw [ent_eq t _ _ h1 h2] at this
  exact this
theorem plain_has {t : List (List Int)} {rows cols : List Int} (ht : taskB t = true) (hr : ∀ a ∈ rows, 0 ≤ a ∧ a < t.length) (hc : ∀ b ∈ cols, 0 ≤ b ∧ b < wid t) (hr0 : 0 < rows.length) (hc0 : 0 < cols.length) :
    plainS t rows cols = !(hasV t rows cols 0 && hasV t rows cols 1) ∧ (plainS t rows cols = true → firstE t rows cols = if hasV t rows cols 1 then 1 else 0) := by
  have e1 : rows.getD 0 0 = rows[0] := by simp [List.getD, hr0]
  have e2 : cols.getD 0 0 = cols[0] := by simp [List.getD, hc0]
  have m1 := List.getElem_mem hr0
  have m2 := List.getElem_mem hc0
  have hf : firstE t rows cols = entI t rows[0] cols[0] := by unfold firstE; rw [e1, e2]
  have hf01 := ent_01 ht _ _ (hr _ m1) (hc _ m2)
  rw [← hf] at hf01
  have hasf : hasV t rows cols (firstE t rows cols) = true := by
    unfold hasV
    rw [List.any_eq_true]
    refine ⟨_, m1, ?_⟩
    rw [List.any_eq_true]
    exact ⟨_, m2, by rw [hf]; simp⟩
  have key : plainS t rows cols = true ↔ ∀ a ∈ rows, ∀ b ∈ cols, entI t a b = firstE t rows cols := by
    unfold plainS rowOk
    simp only [List.all_eq_true, beq_iff_eq]
  have hasE : ∀ v, hasV t rows cols v = true ↔ ∃ a ∈ rows, ∃ b ∈ cols, entI t a b = v := by
    intro v
    unfold hasV
    simp only [List.any_eq_true, beq_iff_eq]
  have other : ∀ v, v ≠ firstE t rows cols → (v = 0 ∨ v = 1) → (plainS t rows cols = !hasV t rows cols v) := by
    intro v hv hv2
    cases hp : plainS t rows cols
    · cases hh : hasV t rows cols v
      · exfalso
        have : plainS t rows cols = true := key.2 fun a ha b hb => by
          have hne : ¬ entI t a b = v := fun e => by rw [(hasE v).2 ⟨a, ha, b, hb, e⟩] at hh; cases hh
          have := ent_01 ht a b (hr a ha) (hc b hb)
          omega
        rw [hp] at this
        cases this
      · rfl
    · cases hh : hasV t rows cols v
      · rfl
      · exfalso
        obtain ⟨a, ha, b, hb, e⟩ := (hasE v).1 hh
        exact hv (e.symm.trans (key.1 hp a ha b hb))
  rcases hf01 with h0 | h0
  · rw [h0] at hasf
    have o := other 1 (by omega) (.inr rfl)
    refine ⟨by rw [hasf, Bool.true_and]; exact o, fun hp => ?_⟩
    rw [hp] at o
    have : hasV t rows cols 1 = false := by cases h : hasV t rows cols 1 <;> simp [h] at o ⊢
    rw [h0, this]
    rfl
  · rw [h0] at hasf
    have o := other 0 (by omega) (.inl rfl)
    refine ⟨by rw [hasf, Bool.and_true]; exact o, fun hp => ?_⟩
    rw [h0, hasf]
    rfl

set_option maxRecDepth 100000 in
set_option maxHeartbeats 2000000 in
theorem c_l8Plain (v u x : Value) (t : List (List Int)) (rows cols : List Int) (w : World) (h : Rows2 w v t) (g : Ints w u rows) (k : Ints w x cols) (ht : taskB t = true)
    (hr : ∀ a ∈ rows, 0 ≤ a ∧ a < t.length) (hc : ∀ b ∈ cols, 0 ≤ b ∧ b < wid t) (hr0 : 0 < rows.length) (hc0 : 0 < cols.length) :
    Calls Try.prog 125 #[v, u, x] w fun e w' => e = .returned (.int .i64 (plainN t rows cols)) ∧ ∃ m, w' = w.drewN m := by
  obtain ⟨adt, capt, rfl, hlt⟩ := h.out
  obtain ⟨adr, capr, rfl, hlr, -⟩ := g.out
  obtain ⟨adc, capc, rfl, hlc, -⟩ := k.out
  obtain ⟨-, -, hlen, -⟩ := taskB_yes ht
  replace hlen := Lib.hid hlen
  replace ht := Lib.hid ht
  replace hr := Lib.hid hr
  replace hc := Lib.hid hc
  have hfE : Hid (entI t rows[0] cols[0] = firstE t rows cols) := Lib.hid (by unfold firstE; simp [List.getD, hr0, hc0])
  obtain ⟨f, hf⟩ : ∃ f, f = firstE t rows cols := ⟨_, rfl⟩
  have hP : Hid (plainN t rows cols = if rows.all (rowOk t f cols) then f else -1) := Lib.hid (by unfold plainN plainS; rw [hf])
  obtain ⟨blr, offr, e1, hbr, hcellr⟩ := g.at 0 hr0
  cases e1
  obtain ⟨er0, er1⟩ := hr.out rows[0] (List.getElem_mem hr0)
  obtain ⟨qr, hqr⟩ := Int.eq_ofNat_of_zero_le er0
  rw [hqr] at hcellr
  obtain ⟨blc, offc, e1, hbc, hcellc⟩ := k.at 0 hc0
  cases e1
  obtain ⟨ec0, ec1⟩ := hc.out cols[0] (List.getElem_mem hc0)
  obtain ⟨qc, hqc⟩ := Int.eq_ofNat_of_zero_le ec0
  rw [hqc] at hcellc
  have hqrl : qr < t.length := by omega
  obtain ⟨blt, offt, a0, c0, e1, hbt, hcellt, hit⟩ := h.at qr hqrl
  cases e1
  have hqcl : qc < t[qr].length := by rw [hlen.out qr hqrl]; omega
  obtain ⟨bx, ox, rfl, hbx, hcellx⟩ := hit.at qc hqcl
  have hent : Hid (t[qr][qc] = entI t rows[0] cols[0]) := Lib.hid (by rw [ent_eq t qr qc hqrl hqcl, hqr, hqc]; rfl)
  rw [hent.out] at hcellx
  replace hqr := Lib.hid hqr
  replace hqc := Lib.hid hqc
  clear er0 ec0
  rw [Nat.add_zero] at hcellr hcellc
  rw [hfE.out, ← hf] at hcellx
  replace hf := Lib.hid hf
  go_enter Try.func125, Try.ntmps125
  go_wp2_with fail
  go_quiet (fail)
  all_goals go_wp2_with fail
  clear hcellr hcellc hcellt hcellx
  go_loopw [8] (fun i wr => ∃ n : Nat, n ≤ rows.length ∧ i = .int .i64 n ∧ Hid ((rows.take n).all (rowOk t f cols) = true) ∧ Hid (∃ m, wr = w.drewN m)) (fun i _ => rows.length - (intOf i).toNat)
  case atStart => exact ⟨0, Nat.zero_le _, rfl, rfl, _, by first | rfl | exact World.drewN_drewN _ _ _⟩
  case round =>
    obtain ⟨n, hn, rfl, HA, hB⟩ := hrel
    obtain ⟨m, rfl⟩ := hB.out
    clear hB
    by_cases hltn : n < rows.length
    · obtain ⟨wo, hwo⟩ : ∃ wo : World, wo = w.drewN m := ⟨_, rfl⟩
      have hd : decide ((n : Int) < (rows.length : Int)) = true := by simp; omega
      go_wp2
      go_loopw [9] (fun i wr => ∃ l : Nat, l ≤ cols.length ∧ i = .int .i64 l ∧ Hid ((cols.take l).all (fun b => entI t rows[n] b == f) = true) ∧ Hid (∃ m, wr = w.drewN m)) (fun i _ => cols.length - (intOf i).toNat)
      case atStart => exact ⟨0, Nat.zero_le _, rfl, rfl, _, rfl⟩
      case round =>
        obtain ⟨l, hl, rfl, HC, hB⟩ := hrel
        obtain ⟨m2, rfl⟩ := hB.out
        clear hB
        by_cases hltl : l < cols.length
        · skip
          obtain ⟨blr, offr, e1, hbr, hcellr⟩ := g.at n hltn
          cases e1
          obtain ⟨er0, er1⟩ := hr.out rows[n] (List.getElem_mem hltn)
          obtain ⟨qr, hqr⟩ := Int.eq_ofNat_of_zero_le er0
          rw [hqr] at hcellr
          obtain ⟨blc, offc, e1, hbc, hcellc⟩ := k.at l hltl
          cases e1
          obtain ⟨ec0, ec1⟩ := hc.out cols[l] (List.getElem_mem hltl)
          obtain ⟨qc, hqc⟩ := Int.eq_ofNat_of_zero_le ec0
          rw [hqc] at hcellc
          have hqrl : qr < t.length := by omega
          obtain ⟨blt, offt, a0, c0, e1, hbt, hcellt, hit⟩ := h.at qr hqrl
          cases e1
          have hqcl : qc < t[qr].length := by rw [hlen.out qr hqrl]; omega
          obtain ⟨bx, ox, rfl, hbx, hcellx⟩ := hit.at qc hqcl
          have hent : Hid (t[qr][qc] = entI t rows[n] cols[l]) := Lib.hid (by rw [ent_eq t qr qc hqrl hqcl, hqr, hqc]; rfl)
          rw [hent.out] at hcellx
          replace hqr := Lib.hid hqr
          replace hqc := Lib.hid hqc
          clear er0 ec0
          have hd3 : decide ((l : Int) < (cols.length : Int)) = true := by simp; omega
          cases hx : (entI t rows[n] cols[l] != f)
          · have hx1 : (entI t rows[n] cols[l] == f) = true := by simpa using hx
            have hF := Lib.hid (take_all (fun b => entI t rows[n] b == f) cols l hltl HC.out hx1)
            replace hx1 := Lib.hid hx1
            go_wp2_with fail
            go_quiet (fail)
            all_goals go_wp2
            all_goals go_roundw
            case rel => exact ⟨l + 1, by omega, by go_num, hF, Lib.hid ⟨_, by first | rfl | exact World.drewN_drewN _ _ _⟩⟩
            case measure => simp [intOf]; omega
          · have hx1 : (entI t rows[n] cols[l] == f) = false := by simpa using hx
            have hF : Hid (plainN t rows cols = -1) := Lib.hid (by
              rw [hP.out, all_false _ rows n hltn (by unfold rowOk; exact all_false _ cols l hltl hx1)]; rfl)
            replace hx1 := Lib.hid hx1
            go_wp2_with fail
            go_quiet (fail)
            all_goals go_wp2
            go_ret
            exact ⟨by rw [hF.out]; rfl, _, by first | rfl | exact World.drewN_drewN _ _ _⟩
        · obtain rfl : l = cols.length := by omega
          have hF := Lib.hid (take_all (rowOk t f cols) rows n hltn HA.out (by unfold rowOk; simpa using HC.out))
          go_wp2
          go_roundw
          case rel => exact ⟨n + 1, by omega, by go_num, hF, Lib.hid ⟨_, rfl⟩⟩
          case measure => simp [intOf]; omega
    · obtain rfl : n = rows.length := by omega
      have hF : Hid (plainN t rows cols = f) := Lib.hid (by
        rw [hP.out]; have := HA.out; rw [List.take_length] at this; rw [if_pos this])
      go_wp2
      go_ret
      exact ⟨by rw [hF.out]; rfl, _, rfl⟩

def setB (n : Int) (l : List Int) : Bool := decide (0 < l.length) && risB 0 (n - 1) l
theorem c_l8Set (v : Value) (l : List Int) (n : Int) (w : World) (h : Ints w v l) (hn : 0 ≤ n ∧ n ≤ 1000) :
    Calls Try.prog 124 #[v, .int .i64 n] w fun e w' => e = .returned (.bool (setB n l)) ∧ ∃ m, w' = w.drewN m := by
  obtain ⟨ad, cap, rfl, hl, -⟩ := h.out
  by_cases h0 : 0 < l.length
  · have hF : Hid (setB n l = risB 0 (n - 1) l) := Lib.hid (by simp [setB, h0])
    have hd : decide ((l.length : Int) > 0) = true := by simp; omega
    go_enter Try.func124, Try.ntmps124
    go_wp2_with fail
    refine (c_l1Rising _ l _ _ _ h).mono ?_
    rintro e w' ⟨rfl, m, rfl⟩
    go_wp2
    go_ret
    exact ⟨by rw [hF.out]; rfl, _, rfl⟩
  · have hF : Hid (setB n l = false) := Lib.hid (by simp [setB, h0])
    have hd : decide ((l.length : Int) > 0) = false := decide_eq_false (by omega)
    go_enter Try.func124, Try.ntmps124
    go_wp2
    go_ret
    exact ⟨by rw [hF.out]; rfl, 0, rfl⟩

theorem c_l8SetB (v : Value) (l : List Int) (n : Int) (w : World) (h : Ints w v l) (hn : 0 ≤ n ∧ n ≤ 1000) :
    Calls Try.prog 124 #[v, .int .i64 n] w fun e w' => e = .returned (.bool (setB n l)) ∧ Below w.heap.size w w' :=
  (c_l8Set v l n w h hn).mono fun _ _ ⟨h1, m, h2⟩ => ⟨h1, h2 ▸ below_drewN (Below.refl _ _) m⟩
theorem c_l8TaskB (v : Value) (t : List (List Int)) (w : World) (h : Rows2 w v t) :
    Calls Try.prog 66 #[v] w fun e w' => e = .returned (.bool (taskB t)) ∧ Below w.heap.size w w' :=
  (c_l8Task v t w h).mono fun _ _ ⟨h1, m, h2⟩ => ⟨h1, h2 ▸ below_drewN (Below.refl _ _) m⟩
theorem c_l8PlainB (v u x : Value) (t : List (List Int)) (rows cols : List Int) (w : World) (h : Rows2 w v t) (g : Ints w u rows) (k : Ints w x cols) (ht : taskB t = true)
    (hr : ∀ a ∈ rows, 0 ≤ a ∧ a < t.length) (hc : ∀ b ∈ cols, 0 ≤ b ∧ b < wid t) (hr0 : 0 < rows.length) (hc0 : 0 < cols.length) :
    Calls Try.prog 125 #[v, u, x] w fun e w' => e = .returned (.int .i64 (plainN t rows cols)) ∧ Below w.heap.size w w' :=
  (c_l8Plain v u x t rows cols w h g k ht hr hc hr0 hc0).mono fun _ _ ⟨h1, m, h2⟩ => ⟨h1, h2 ▸ below_drewN (Below.refl _ _) m⟩

def plainOk (t : List (List Int)) (rows cols : List Int) : Bool := taskB t && (setB t.length rows && setB (wid t) cols)
def plainV (t : List (List Int)) (rows cols : List Int) : Bool := plainOk t rows cols && plainS t rows cols
set_option maxHeartbeats 1000000 in
theorem c_spec_IsPlain (v u x : Value) (t : List (List Int)) (rows cols : List Int) (w : World) (h : Rows2 w v t) (g : Ints w u rows) (k : Ints w x cols) :
    Calls Try.prog 64 #[v, u, x] w fun e w' => e = .returned (.tuple #[.bool (plainV t rows cols), .bool (plainOk t rows cols)]) ∧ Below w.heap.size w w' := by
  obtain ⟨adt, capt, rfl, hlt⟩ := h.out
  obtain ⟨adr, capr, rfl, hlr, -⟩ := g.out
  obtain ⟨adc, capc, rfl, hlc, -⟩ := k.out
  cases ht : taskB t
  · have hF : plainOk t rows cols = false ∧ plainV t rows cols = false := by simp [plainOk, plainV, ht]
    rw [hF.1, hF.2]
    clear hF
    replace ht := Lib.hid ht
    go_enter Try.func64, Try.ntmps64
    go_wp2_with fail
    refine (c_l8TaskB _ t _ h).mono ?_
    rintro e w1 ⟨rfl, hb1⟩
    rw [ht.out]
    go_wp2
    go_ret2
    exact ⟨rfl, hb1⟩
  obtain ⟨ht1, ht2, hlen, -⟩ := taskB_yes ht
  replace hlen := Lib.hid hlen
  cases hr : setB t.length rows
  · have hF : plainOk t rows cols = false ∧ plainV t rows cols = false := by simp [plainOk, plainV, hr]
    rw [hF.1, hF.2]
    clear hF
    replace ht := Lib.hid ht
    replace hr := Lib.hid hr
    go_enter Try.func64, Try.ntmps64
    go_wp2_with fail
    refine (c_l8TaskB _ t _ h).mono ?_
    rintro e w1 ⟨rfl, hb1⟩
    rw [ht.out]
    go_wp2_with fail
    refine (c_l8SetB _ rows (t.length : Int) _ (g.below hb1) (by omega)).mono ?_
    rintro e w2 ⟨rfl, hb2⟩
    replace hb1 := bstep hb1 hb2
    rw [hr.out]
    go_wp2
    go_ret2
    exact ⟨rfl, hb1⟩
  obtain ⟨blt, offt, a0, c0, rfl, hbt, hcellt, hit⟩ := h.at0 (by omega)
  cases hc : setB (wid t) cols
  · have hF : plainOk t rows cols = false ∧ plainV t rows cols = false := by simp [plainOk, plainV, hc]
    rw [hF.1, hF.2]
    clear hF
    replace ht := Lib.hid ht
    replace hr := Lib.hid hr
    replace hc := Lib.hid hc
    go_enter Try.func64, Try.ntmps64
    go_wp2_with fail
    refine (c_l8TaskB _ t _ h).mono ?_
    rintro e w1 ⟨rfl, hb1⟩
    rw [ht.out]
    go_wp2_with fail
    refine (c_l8SetB _ rows (t.length : Int) _ (g.below hb1) (by omega)).mono ?_
    rintro e w2 ⟨rfl, hb2⟩
    replace hb1 := bstep hb1 hb2
    rw [hr.out]
    have hcellt2 := ((bcell hb1).1 _ _ hbt).trans hcellt
    have hbt2 : blt < w2.heap.size := Nat.lt_of_lt_of_le hbt hb1.size
    go_wp2_with fail
    refine (c_l8SetB _ cols (wid t : Int) _ (k.below hb1) (by omega)).mono ?_
    rintro e w3 ⟨rfl, hb3⟩
    replace hb1 := bstep hb1 hb3
    rw [hc.out]
    go_wp2
    go_ret2
    exact ⟨rfl, hb1⟩
  have hF : plainOk t rows cols = true ∧ plainV t rows cols = plainS t rows cols := by simp [plainOk, plainV, ht, hr, hc]
  rw [hF.1, hF.2]
  clear hF
  have hr' := hr
  have hc' := hc
  unfold setB at hr' hc'
  simp only [Bool.and_eq_true, decide_eq_true_eq] at hr' hc'
  obtain ⟨hr0, hr1⟩ := hr'
  obtain ⟨hc0, hc1⟩ := hc'
  have hrm : ∀ a ∈ rows, 0 ≤ a ∧ a < t.length := fun a ha => by have := risB_mem hr1 a ha; omega
  have hcm : ∀ b ∈ cols, 0 ≤ b ∧ b < wid t := fun b hb => by have := risB_mem hc1 b hb; omega
  have hge : Hid (decide (plainN t rows cols ≥ 0) = plainS t rows cols) := Lib.hid (by
    unfold plainN
    cases hp : plainS t rows cols
    · simp
    · have m1 := List.getElem_mem hr0
      have m2 := List.getElem_mem hc0
      have := ent_01 ht rows[0] cols[0] (hrm _ m1) (hcm _ m2)
      have e : firstE t rows cols = entI t rows[0] cols[0] := by unfold firstE; simp [List.getD, hr0, hc0]
      rw [e]
      simp
      omega)
  replace ht := Lib.hid ht
  replace hr := Lib.hid hr
  replace hc := Lib.hid hc
  replace hr1 := Lib.hid hr1
  replace hc1 := Lib.hid hc1
  replace hrm := Lib.hid hrm
  replace hcm := Lib.hid hcm
  go_enter Try.func64, Try.ntmps64
  go_wp2_with fail
  refine (c_l8TaskB _ t _ h).mono ?_
  rintro e w1 ⟨rfl, hb1⟩
  rw [ht.out]
  go_wp2_with fail
  refine (c_l8SetB _ rows (t.length : Int) _ (g.below hb1) (by omega)).mono ?_
  rintro e w2 ⟨rfl, hb2⟩
  replace hb1 := bstep hb1 hb2
  rw [hr.out]
  have hcellt2 := ((bcell hb1).1 _ _ hbt).trans hcellt
  have hbt2 : blt < w2.heap.size := Nat.lt_of_lt_of_le hbt hb1.size
  go_wp2_with fail
  refine (c_l8SetB _ cols (wid t : Int) _ (k.below hb1) (by omega)).mono ?_
  rintro e w3 ⟨rfl, hb3⟩
  replace hb1 := bstep hb1 hb3
  rw [hc.out]
  go_wp2_with fail
  refine (c_l8PlainB _ _ _ t rows cols _ (h.below hb1) (g.below hb1) (k.below hb1) ht.out hrm.out hcm.out hr0 hc0).mono ?_
  rintro e w4 ⟨rfl, hb4⟩
  replace hb1 := bstep hb1 hb4
  go_wp2
  go_ret2
  exact ⟨by rw [← hge.out]; rfl, hb1⟩
end Go.Proofs.Ytpieaeokbblflaa
