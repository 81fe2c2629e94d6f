/- A part of the proofs of this seat's statements: lemmas and contracts, each with its own premises. -/
import Derived.Test.YtddndccbdglmdaaCm
namespace Go.SX
theorem ofInt_nat (a : Nat) : BitVec.ofInt 64 (a : Int) = BitVec.ofNat 64 a := by
  apply BitVec.eq_of_toNat_eq
  simp
theorem and_nat {a b : Nat} (ha : a < 2 ^ 63) (hb : b < 2 ^ 63) : bitsOp .and .i64 (a : Int) (b : Int) = ((a &&& b : Nat) : Int) := by
  have h1 : a &&& b ≤ a := Nat.and_le_left
  show IntKind.i64.wrap (((BitVec.ofInt 64 (a : Int) &&& BitVec.ofInt 64 (b : Int) : BitVec 64).toNat : Nat) : Int) = _
  rw [ofInt_nat, ofInt_nat, BitVec.toNat_and, BitVec.toNat_ofNat, BitVec.toNat_ofNat]
  rw [Nat.mod_eq_of_lt (by omega), Nat.mod_eq_of_lt (by omega)]
  exact wrap64_id (by omega) (by omega)
theorem or_nat {a b : Nat} (ha : a < 2 ^ 63) (hb : b < 2 ^ 63) : bitsOp .or .i64 (a : Int) (b : Int) = ((a ||| b : Nat) : Int) := by
  have h1 : a ||| b < 2 ^ 63 := Nat.or_lt_two_pow ha hb
  show IntKind.i64.wrap (((BitVec.ofInt 64 (a : Int) ||| BitVec.ofInt 64 (b : Int) : BitVec 64).toNat : Nat) : Int) = _
  rw [ofInt_nat, ofInt_nat, BitVec.toNat_or, BitVec.toNat_ofNat, BitVec.toNat_ofNat]
  rw [Nat.mod_eq_of_lt (by omega), Nat.mod_eq_of_lt (by omega)]
  exact wrap64_id (by omega) (by omega)
theorem xor_nat {a b : Nat} (ha : a < 2 ^ 63) (hb : b < 2 ^ 63) : bitsOp .xor .i64 (a : Int) (b : Int) = ((a ^^^ b : Nat) : Int) := by
  have h1 : a ^^^ b < 2 ^ 63 := Nat.xor_lt_two_pow ha hb
  show IntKind.i64.wrap (((BitVec.ofInt 64 (a : Int) ^^^ BitVec.ofInt 64 (b : Int) : BitVec 64).toNat : Nat) : Int) = _
  rw [ofInt_nat, ofInt_nat, BitVec.toNat_xor, BitVec.toNat_ofNat, BitVec.toNat_ofNat]
  rw [Nat.mod_eq_of_lt (by omega), Nat.mod_eq_of_lt (by omega)]
  exact wrap64_id (by omega) (by omega)
theorem and_one_nat {a : Nat} (ha : a < 2 ^ 63) : bitsOp .and .i64 (a : Int) 1 = ((a % 2 : Nat) : Int) := by
  rw [show (1 : Int) = ((1 : Nat) : Int) from rfl, and_nat ha (by omega), Nat.and_one_is_mod]
theorem and_mask_nat {a k : Nat} (ha : a < 2 ^ 63) (hk : k < 63) : bitsOp .and .i64 (a : Int) ((2 ^ k - 1 : Nat) : Int) = ((a % 2 ^ k : Nat) : Int) := by
  have : 2 ^ k < 2 ^ 63 := Nat.pow_lt_pow_right (by omega) hk
  rw [and_nat ha (by omega), Nat.and_two_pow_sub_one_eq_mod]
theorem fdiv_nat (a k : Nat) : (a : Int).fdiv (2 ^ k) = ((a / 2 ^ k : Nat) : Int) := by
  rw [show (2 : Int) ^ k = ((2 ^ k : Nat) : Int) from by simp, Int.ofNat_fdiv]
theorem shr_nat {a k : Nat} (hk : k ≤ 64) : (a : Int).fdiv (2 ^ (min k IntKind.i64.bits)) = ((a / 2 ^ k : Nat) : Int) := by
  rw [show min k IntKind.i64.bits = k from Nat.min_eq_left hk, fdiv_nat]
theorem shl_one {k : Nat} (hk : k < 63) : IntKind.i64.wrap (1 * 2 ^ (min k IntKind.i64.bits)) = ((2 ^ k : Nat) : Int) := by
  have : 2 ^ k < 2 ^ 63 := Nat.pow_lt_pow_right (by omega) hk
  rw [show min k IntKind.i64.bits = k from Nat.min_eq_left (by show k ≤ 64; omega), show (2 : Int) ^ k = ((2 ^ k : Nat) : Int) from by simp, Int.one_mul]
  generalize 2 ^ k = m at *
  exact wrap64_id (by omega) (by omega)
theorem wrap_nat {a : Nat} (ha : a < 2 ^ 63) : IntKind.i64.wrap (a : Int) = (a : Int) := wrap64_id (by omega) (by omega)
end Go.SX
