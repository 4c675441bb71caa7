/-
  And, or, exclusive or, of numbers of 64 bits, as sums and rests.
-/
import Derived.Laws.Bits64b
import Derived.Laws.BitsLemmas
import Derived.Test.YtmfldcacjpligaaDoorP4
namespace Go.Proofs.YtmfldcacjpligaaDoor
theorem land_any (n : Int) (k : Nat) (hk : k < 63) : bits .and .i64 n (2 ^ k - 1) = n % 2 ^ k := by
  have hpos : 0 < 2 ^ k := Nat.two_pow_pos k
  have hle : 2 ^ k ≤ 2 ^ 62 := Nat.pow_le_pow_right (by decide) (by omega)
  have hc : ((2 : Int) ^ k - 1) = ((2 ^ k - 1 : Nat) : Int) := by rw [Int.natCast_sub hpos]; simp
  have hp : ((2 ^ k : Nat) : Int) = 2 ^ k := by rw [Int.natCast_pow]; rfl
  have hm : (BitVec.ofInt 64 ((2 ^ k - 1 : Nat) : Int)).toNat = 2 ^ k - 1 := by
    rw [BitVec.ofInt_natCast, BitVec.toNat_ofNat]
    exact Nat.mod_eq_of_lt (by omega)
  have hd : ((2 : Int) ^ k) ∣ 18446744073709551616 := ⟨2 ^ (64 - k), by rw [← Int.pow_add, show k + (64 - k) = 64 by omega]; decide⟩
  show IntKind.i64.wrap ((BitVec.ofInt 64 n &&& BitVec.ofInt 64 (2 ^ k - 1)).toNat : Int) = _
  rw [hc, BitVec.toNat_and, hm, Nat.and_two_pow_sub_one_eq_mod, BitVec.toNat_ofInt, Int.natCast_emod, hp, IntKind.wrap_i64]
  have e : (((n % ((2 ^ 64 : Nat) : Int)).toNat : Nat) : Int) = n % 18446744073709551616 := by
    have : ((2 ^ 64 : Nat) : Int) = 18446744073709551616 := by decide
    rw [this]
    omega
  rw [e, Int.emod_emod_of_dvd _ hd]
  have hle' : (2 : Int) ^ k ≤ 4611686018427387904 := by omega
  have hpos' : (0 : Int) < 2 ^ k := by omega
  have b1 := Int.emod_nonneg n (show (2 : Int) ^ k ≠ 0 by omega)
  have b2 := Int.emod_lt_of_pos n hpos'
  omega
theorem land32 (n : Int) : bits .and .i64 n 4294967295 = n % 4294967296 := land_any n 32 (by decide)
theorem land20 (n : Int) : bits .and .i64 n 1048575 = n % 1048576 := land_any n 20 (by decide)
theorem land16 (n : Int) : bits .and .i64 n 65535 = n % 65536 := land_any n 16 (by decide)
theorem land15 (n : Int) : bits .and .i64 n 15 = n % 16 := land_any n 4 (by decide)
theorem land0 (n : Int) : bits .and .i64 n 0 = 0 := by
  have := land_any n 0 (by decide)
  rw [show (2 : Int) ^ 0 - 1 = 0 by decide] at this
  rw [this]
  omega
theorem wraps_i64 (n : Int) (h₀ : 0 ≤ n) (h₁ : n < 2 ^ 62) : IntKind.i64.wrap n = n := by rw [IntKind.wrap_i64]; omega
theorem lor_sum (x y : Int) (i : Nat) (hi : i ≤ 62) (hx₀ : 0 ≤ x) (hx : x % 2 ^ i = 0) (hx₁ : x < 2 ^ 62) (hy₀ : 0 ≤ y) (hy : y < 2 ^ i) : bits .or .i64 x y = x + y :=
  bits_join .i64 62 (by decide) wraps_i64 i x y hx₀ hx hx₁ hy₀ hy (Int.lt_of_lt_of_le hy (by
    have : 2 ^ i ≤ 2 ^ 62 := Nat.pow_le_pow_right (by decide) hi
    exact_mod_cast this))
/-- The word as both texts put it together. -/
theorem word_bits {op a b c m : Int} (h0 : 0 ≤ op ∧ op ≤ 70) (ha : 0 ≤ a ∧ a ≤ 15) (hb : 0 ≤ b ∧ b ≤ 15) (hc : 0 ≤ c ∧ c ≤ 15) (hm : 0 ≤ m) (h : m < 4096 ∨ (m < 65536 ∧ c = 0) ∨ (m < 1048576 ∧ b = 0 ∧ c = 0)) :
    bits .or .i64 (bits .or .i64 (bits .or .i64 (bits .or .i64 (op * 16777216) (a * 1048576)) (b * 65536)) (c * 4096)) m = op * 16777216 + a * 1048576 + b * 65536 + c * 4096 + m := by
  rw [lor_sum (op * 16777216) (a * 1048576) 24 (by decide) (by omega) (by omega) (by omega) (by omega) (by omega)]
  rw [lor_sum _ (b * 65536) 20 (by decide) (by omega) (by omega) (by omega) (by omega) (by omega)]
  rw [lor_sum _ (c * 4096) 16 (by decide) (by omega) (by omega) (by omega) (by omega) (by omega)]
  rcases h with h | ⟨h, rfl⟩ | ⟨h, rfl, rfl⟩
  · rw [lor_sum _ m 12 (by decide) (by omega) (by omega) (by omega) (by omega) (by omega)]
  · rw [lor_sum _ m 16 (by decide) (by omega) (by omega) (by omega) (by omega) (by omega)]
  · rw [lor_sum _ m 20 (by decide) (by omega) (by omega) (by omega) (by omega) (by omega)]
/-- One bit turned. -/
theorem lxor_flip {n : Int} {k : Nat} (h0 : 0 ≤ n) (h1 : n < 4611686018427387904) (hk : k < 62) : bits .xor .i64 n (2 ^ k) = Is.flip n k := by
  obtain ⟨w, rfl⟩ := Int.eq_ofNat_of_zero_le h0
  have hp : ((2 ^ k : Nat) : Int) = 2 ^ k := by rw [Int.natCast_pow]; rfl
  have hle : 2 ^ k ≤ 2 ^ 61 := Nat.pow_le_pow_right (by decide) (by omega)
  rw [← Is.flip_nat, ← hp]
  show IntKind.i64.wrap ((BitVec.ofInt 64 (w : Int) ^^^ BitVec.ofInt 64 ((2 ^ k : Nat) : Int)).toNat : Int) = _
  have e1 : (BitVec.ofInt 64 (w : Int)).toNat = w := by
    rw [BitVec.ofInt_natCast, BitVec.toNat_ofNat]
    exact Nat.mod_eq_of_lt (by omega)
  have e2 : (BitVec.ofInt 64 ((2 ^ k : Nat) : Int)).toNat = 2 ^ k := by
    rw [BitVec.ofInt_natCast, BitVec.toNat_ofNat]
    exact Nat.mod_eq_of_lt (by omega)
  rw [BitVec.toNat_xor, e1, e2]
  have hx : w ^^^ 2 ^ k < 2 ^ 62 := Nat.xor_lt_two_pow (by omega) (by omega)
  exact wraps_i64 _ (by omega) (by omega)
end Go.Proofs.YtmfldcacjpligaaDoor
