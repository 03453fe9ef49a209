/- Masks of whole numbers of either sign. -/
import Derived.Test.YtghbnomiahiapaaLib
namespace Go.Proofs.Ytghbnomiahiapaa
open Go.RowKit

theorem and_mask (n : Int) (k : Nat) (hk : k ≤ 62) : bits .and .i64 n (2 ^ k - 1) = n % 2 ^ k := by
  have hp : (2 : Nat) ^ k ≤ 2 ^ 62 := Nat.pow_le_pow_right (by omega) hk
  have hpos : 0 < (2 : Nat) ^ k := Nat.two_pow_pos k
  have hc : ((2 : Int) ^ k - 1) = ((2 ^ k - 1 : Nat) : Int) := by
    rw [Int.natCast_sub hpos]; simp
  have hpI : (0 : Int) < 2 ^ k := by exact_mod_cast hpos
  have hpI2 : (2 : Int) ^ k ≤ 2 ^ 62 := by exact_mod_cast hp
  have hd : (2 : Int) ^ k ∣ (18446744073709551616 : Int) := by
    refine ⟨2 ^ (64 - k), ?_⟩
    rw [← Int.pow_add, show k + (64 - k) = 64 by omega]
    decide
  unfold bits
  have e1 : (BitVec.ofInt 64 ((2 : Int) ^ k - 1)).toNat = 2 ^ k - 1 := by
    rw [hc, BitVec.ofInt_natCast, BitVec.toNat_ofNat]; exact Nat.mod_eq_of_lt (by omega)
  have e2 : (BitVec.ofInt 64 n).toNat = (n % 18446744073709551616).toNat := by
    rw [BitVec.toNat_ofInt]; simp
  show IntKind.i64.wrap ((BitVec.ofInt 64 n &&& BitVec.ofInt 64 ((2 : Int) ^ k - 1)).toNat : Int) = _
  rw [BitVec.toNat_and, e1, e2, Nat.and_two_pow_sub_one_eq_mod, IntKind.wrap_i64]
  have hn : 0 ≤ n % 18446744073709551616 := Int.emod_nonneg _ (by omega)
  have e3 : (((n % 18446744073709551616).toNat % 2 ^ k : Nat) : Int) = n % 2 ^ k := by
    rw [Int.natCast_emod, Int.toNat_of_nonneg hn]
    have := Int.emod_emod_of_dvd n hd
    simpa using this
  rw [e3]
  have h0 : 0 ≤ n % (2 : Int) ^ k := Int.emod_nonneg _ (by omega)
  have h1 : n % (2 : Int) ^ k < 2 ^ k := Int.emod_lt_of_pos _ hpI
  generalize n % (2 : Int) ^ k = r at h0 h1
  generalize (2 : Int) ^ k = m at h1 hpI2
  omega
theorem and_15 (n : Int) : bits .and .i64 n 15 = n % 16 := and_mask n 4 (by omega)
theorem and_7 (n : Int) : bits .and .i64 n 7 = n % 8 := and_mask n 3 (by omega)
theorem and_1 (n : Int) : bits .and .i64 n 1 = n % 2 := and_mask n 1 (by omega)
theorem and_63 (n : Int) : bits .and .i64 n 63 = n % 64 := and_mask n 6 (by omega)
theorem and_127 (n : Int) : bits .and .i64 n 127 = n % 128 := and_mask n 7 (by omega)
theorem and_255 (n : Int) : bits .and .i64 n 255 = n % 256 := and_mask n 8 (by omega)
theorem and_65535 (n : Int) : bits .and .i64 n 65535 = n % 65536 := and_mask n 16 (by omega)

end Go.Proofs.Ytghbnomiahiapaa
