/- Bits of numbers of 64 bits; conditions: none. -/
import Derived.Test.YtpieaeokbblflaaBits
import Derived.Laws.BitsAllLaws
namespace Go.Proofs.Ytpieaeokbblflaa
open Go.RowKit

theorem ofInt_i64 (a : Nat) (ha : a < 4611686018427387904) : (BitVec.ofInt 64 (a : Int)).toNat = a := by
  rw [BitVec.ofInt_natCast, BitVec.toNat_ofNat]; exact Nat.mod_eq_of_lt (by omega)
theorem i64_or_nat (a b : Nat) (ha : a < 4611686018427387904) (hb : b < 4611686018427387904) : bits .or .i64 (a : Int) (b : Int) = ((a ||| b : Nat) : Int) := by
  have hx : a ||| b < 2 ^ 62 := Nat.or_lt_two_pow (by omega) (by omega)
  show IntKind.i64.wrap ((BitVec.ofInt 64 (a : Int) ||| BitVec.ofInt 64 (b : Int)).toNat : Int) = _
  rw [BitVec.toNat_or, ofInt_i64 a ha, ofInt_i64 b hb]
  exact wraps_i64 _ (by omega) (by omega)
theorem i64_xor_nat (a b : Nat) (ha : a < 4611686018427387904) (hb : b < 4611686018427387904) : bits .xor .i64 (a : Int) (b : Int) = ((a ^^^ b : Nat) : Int) := by
  have hx : a ^^^ b < 2 ^ 62 := Nat.xor_lt_two_pow (by omega) (by omega)
  show IntKind.i64.wrap ((BitVec.ofInt 64 (a : Int) ^^^ BitVec.ofInt 64 (b : Int)).toNat : Int) = _
  rw [BitVec.toNat_xor, ofInt_i64 a ha, ofInt_i64 b hb]
  exact wraps_i64 _ (by omega) (by omega)
theorem shl_small (q : Nat) (hq : q < 12) : wrap64 ((2 : Int) ^ q) = ((2 ^ q : Nat) : Int) ∧ 2 ^ q ≤ 4096 := by
  have : ∀ q : Nat, q < 12 → wrap64 ((2 : Int) ^ q) = ((2 ^ q : Nat) : Int) ∧ 2 ^ q ≤ 4096 := by decide +kernel
  exact this q hq
theorem or_shlI (m q : Nat) (hm : m < 4096) (hq : q < 12) : bits BinOp.or IntKind.i64 (m : Int) (wrap64 ((2 : Int) ^ q)) = ((m ||| 2 ^ q : Nat) : Int) := by
  have h := shl_small q hq
  rw [h.1, i64_or_nat _ _ (by omega) (by have := h.2; omega)]

end Go.Proofs.Ytpieaeokbblflaa
