import Derived.Test.YticjjabioiilfaaGreatDoorD
set_option linter.unusedVariables false
set_option linter.unusedSimpArgs false
namespace Wb
open Go Go.Proofs Enc Row
set_option linter.unusedSimpArgs false
set_option linter.unusedVariables false
set_option maxRecDepth 20000
set_option maxHeartbeats 4000000
theorem ofNat_toNat {a : Nat} (h : a < 2 ^ 62) : (BitVec.ofNat 64 a).toNat = a := by
 rw [BitVec.toNat_ofNat]; exact Nat.mod_eq_of_lt (by omega)
theorem bits_and {a b : Nat} (ha : a < 2 ^ 62) (hb : b < 2 ^ 62) : bits .and .i64 (a : Int) (b : Int) = ((a &&& b : Nat) : Int) := by
 have h : a &&& b ≤ a := Nat.and_le_left
 have e : (BitVec.ofNat 64 a &&& BitVec.ofNat 64 b).toNat = a &&& b := by rw [BitVec.toNat_and, ofNat_toNat ha, ofNat_toNat hb]
 show IntKind.i64.wrap (((BitVec.ofInt 64 (a : Int) &&& BitVec.ofInt 64 (b : Int)).toNat : Nat) : Int) = _
 rw [BitVec.ofInt_natCast, BitVec.ofInt_natCast, e]
 exact wrap_id (by omega)
theorem or_lt {a b : Nat} (ha : a < 2 ^ 62) (hb : b < 2 ^ 62) : a ||| b < 2 ^ 62 := Nat.or_lt_two_pow ha hb
theorem bits_or {a b : Nat} (ha : a < 2 ^ 62) (hb : b < 2 ^ 62) : bits .or .i64 (a : Int) (b : Int) = ((a ||| b : Nat) : Int) := by
 have h := or_lt ha hb
 have e : (BitVec.ofNat 64 a ||| BitVec.ofNat 64 b).toNat = a ||| b := by rw [BitVec.toNat_or, ofNat_toNat ha, ofNat_toNat hb]
 show IntKind.i64.wrap (((BitVec.ofInt 64 (a : Int) ||| BitVec.ofInt 64 (b : Int)).toNat : Nat) : Int) = _
 rw [BitVec.ofInt_natCast, BitVec.ofInt_natCast, e]
 exact wrap_id (by omega)
theorem shr_nat {a k : Nat} (ha : a < 2 ^ 62) : shft false .i64 (a : Int) (k : Int) = ((a >>> k : Nat) : Int) := by
 simp only [shft, Bool.false_eq_true, if_false, Int.toNat_natCast]
 rw [Int.fdiv_eq_ediv_of_nonneg _ (Int.le_of_lt (Int.pow_pos (by decide))), Nat.shiftRight_eq_div_pow]
 by_cases hk : k ≤ 64
 ·rw [show min k IntKind.i64.bits = k from Nat.min_eq_left hk]
  norm_cast
 ·rw [show min k IntKind.i64.bits = 64 from Nat.min_eq_right (show 64 ≤ k by omega)]
  have h1 : a / 2 ^ k = 0 := Nat.div_eq_of_lt (Nat.lt_of_lt_of_le ha (Nat.pow_le_pow_right (by decide) (by omega)))
  rw [h1]
  have h2 : a / 2 ^ 64 = 0 := Nat.div_eq_of_lt (by omega)
  have : ((a / 2 ^ 64 : Nat) : Int) = (a : Int) / 2 ^ 64 := by norm_cast
  rw [← this, h2]
theorem shl_one {k : Nat} (hk : k < 62) : shft true .i64 1 (k : Int) = ((2 ^ k : Nat) : Int) := by
 simp only [shft, if_true, Int.toNat_natCast, Int.one_mul]
 rw [show min k IntKind.i64.bits = k from Nat.min_eq_left (show k ≤ 64 by omega)]
 have : 2 ^ k < 2 ^ 62 := Nat.pow_lt_pow_right (by decide) hk
 rw [wrap_id ⟨?_, ?_⟩]
 ·norm_cast
 ·have : (0 : Int) < 2 ^ k := Int.pow_pos (by decide)
  omega
 ·have h2 : ((2 ^ k : Nat) : Int) < ((2 ^ 62 : Nat) : Int) := Int.ofNat_lt.2 this
  rw [Int.natCast_pow] at h2
  have h3 : ((2 ^ 62 : Nat) : Int) = 4611686018427387904 := by decide
  rw [h3] at h2
  have h4 : ((2 : Nat) : Int) ^ k = (2 : Int) ^ k := rfl
  omega
theorem bit_test {a k : Nat} (ha : a < 2 ^ 62) : (bits .and .i64 (shft false .i64 (a : Int) (k : Int)) 1 == 1) = a.testBit k := by
 have h1 : a >>> k < 2 ^ 62 := Nat.lt_of_le_of_lt (by rw [Nat.shiftRight_eq_div_pow]; exact Nat.div_le_self ..) ha
 rw [shr_nat ha, show (1 : Int) = ((1 : Nat) : Int) from rfl, bits_and h1 (by decide), Nat.testBit, Nat.and_comm]
 have h2 : (a >>> k) &&& 1 = (a >>> k) % 2 := Nat.and_one_is_mod _
 rw [Bool.eq_iff_iff]
 simp only [beq_iff_eq, bne_iff_ne, ne_eq, Nat.and_comm 1, h2]
 omega
theorem inF_nat {a k : Nat} (ha : a < 2 ^ 62) : inF (a : Int) (k : Int) = a.testBit k := bit_test ha
theorem or_bit {a : Int} (h0 : 0 ≤ a) (h1 : a < 2 ^ 62) {b : Nat} (hb : b < 62) : ∃ m : Nat, bits .or .i64 a (shft true .i64 1 (b : Int)) = (m : Int) ∧ m < 2 ^ 62 ∧ ∀ d : Nat, inF (m : Int) (d : Int) = (inF a d || decide (b = d)) := by
 obtain ⟨n, rfl⟩ := Int.eq_ofNat_of_zero_le h0
 have hn : n < 2 ^ 62 := by
  have : (n : Int) < ((2 ^ 62 : Nat) : Int) := by rw [show ((2 ^ 62 : Nat) : Int) = 2 ^ 62 from by norm_cast]; exact h1
  exact Int.ofNat_lt.1 this
 have h2 : 2 ^ b < 2 ^ 62 := Nat.pow_lt_pow_right (by decide) hb
 refine ⟨n ||| 2 ^ b, by rw [shl_one hb, bits_or hn h2], or_lt hn h2, fun d => ?_⟩
 rw [inF_nat (or_lt hn h2), inF_nat hn, Nat.testBit_or, Nat.testBit_two_pow]
end Wb
