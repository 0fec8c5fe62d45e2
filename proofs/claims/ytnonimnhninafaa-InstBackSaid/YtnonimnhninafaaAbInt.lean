/- Facts of whole numbers, no program in sight. -/
import Derived.Test.YtnonimnhninafaaAbOp
namespace Go.Proofs.Ytnonimnhninafaa.Ab
open Go

theorem wrap64 {x : Int} (h1 : -9223372036854775808 ≤ x) (h2 : x < 9223372036854775808) : IntKind.i64.wrap x = x := by
  simp only [IntKind.wrap, IntKind.bits, IntKind.signed, Bool.true_and]
  split <;> simp_all <;> omega

theorem wrapR (x : Int) : -9223372036854775808 ≤ IntKind.i64.wrap x ∧ IntKind.i64.wrap x < 9223372036854775808 := by
  simp only [IntKind.wrap, IntKind.bits, IntKind.signed, Bool.true_and]
  split <;> simp_all <;> omega

theorem and_mask (x : Int) (k : Nat) (hk : k ≤ 62) : bitOf .and .i64 x ((2 ^ k - 1 : Nat) : Int) = x % (2 ^ k : Nat) := by
  have hp : (2 : Nat) ^ k ≤ 2 ^ 62 := Nat.pow_le_pow_right (by decide) hk
  have hpos : 0 < (2 : Nat) ^ k := Nat.pow_pos (by decide)
  have e : (BitVec.ofInt IntKind.i64.bits x &&& BitVec.ofInt IntKind.i64.bits ((2 ^ k - 1 : Nat) : Int)).toNat = (x % (2 ^ k : Nat)).toNat := by
    rw [BitVec.toNat_and, BitVec.toNat_ofInt, BitVec.toNat_ofInt]
    have h1 : (((2 ^ k - 1 : Nat) : Int) % ((2 ^ IntKind.i64.bits : Nat) : Int)).toNat = 2 ^ k - 1 := by
      rw [Int.emod_eq_of_lt (by omega) (by simp only [IntKind.bits]; omega)]
      simp
    rw [h1, Nat.and_two_pow_sub_one_eq_mod]
    have h2 : 0 ≤ x % ((2 ^ IntKind.i64.bits : Nat) : Int) := Int.emod_nonneg _ (by simp [IntKind.bits])
    have h3 : ((x % ((2 ^ IntKind.i64.bits : Nat) : Int)).toNat % 2 ^ k : Nat) = (x % ((2 ^ IntKind.i64.bits : Nat) : Int) % ((2 ^ k : Nat) : Int)).toNat := by
      rw [Int.toNat_emod h2 (by omega), Int.toNat_natCast]
    rw [h3, Int.emod_emod_of_dvd]
    have : IntKind.i64.bits = k + (64 - k) := by simp only [IntKind.bits]; omega
    rw [this, Nat.pow_add]
    exact ⟨((2 ^ (64 - k) : Nat) : Int), by simp⟩
  show IntKind.i64.wrap _ = _
  rw [e]
  have h4 : 0 ≤ x % ((2 ^ k : Nat) : Int) := Int.emod_nonneg _ (by omega)
  have h5 : x % ((2 ^ k : Nat) : Int) < ((2 ^ k : Nat) : Int) := Int.emod_lt_of_pos _ (by omega)
  rw [Int.toNat_of_nonneg h4]
  exact wrap64 (by omega) (by omega)

end Go.Proofs.Ytnonimnhninafaa.Ab
