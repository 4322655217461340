/- Bits of words. -/
import Derived.Test.YtklfialdapljlaaTxB
namespace Go.Proofs.Tx
open Go Go.Proofs.Sx

theorem and_mask (x : Int) (k : Nat) (h : k ≤ 64) : F2.ev .and .u64 x ((2 ^ k - 1 : Nat) : Int) = x % (2 ^ k : Nat) := by
  show IntKind.wrap .u64 ((BitVec.ofInt 64 x &&& BitVec.ofInt 64 ((2 ^ k - 1 : Nat) : Int)).toNat : Int) = _
  have hk : 2 ^ k ≤ 2 ^ 64 := Nat.pow_le_pow_right (by omega) h
  have hk0 : 0 < 2 ^ k := Nat.two_pow_pos k
  rw [wrap_u64, BitVec.toNat_and, BitVec.toNat_ofInt, BitVec.toNat_ofInt]
  have e : (((2 ^ k - 1 : Nat) : Int) % ((2 ^ 64 : Nat) : Int)).toNat = 2 ^ k - 1 := by
    rw [← Int.natCast_emod, Nat.mod_eq_of_lt (by omega)]; rfl
  rw [e, Nat.and_two_pow_sub_one_eq_mod]
  have h1 : ((x % ((2 ^ 64 : Nat) : Int)).toNat : Int) = x % ((2 ^ 64 : Nat) : Int) := Int.toNat_of_nonneg (Int.emod_nonneg _ (by decide))
  have h2 : (((x % ((2 ^ 64 : Nat) : Int)).toNat % 2 ^ k : Nat) : Int) = x % (2 ^ k : Nat) := by
    rw [Int.natCast_emod, h1, Int.emod_emod_of_dvd]
    exact_mod_cast Nat.pow_dvd_pow 2 h
  rw [h2]
  have h3 : 0 ≤ x % ((2 ^ k : Nat) : Int) := Int.emod_nonneg _ (by omega)
  have h4 : x % ((2 ^ k : Nat) : Int) < ((2 ^ k : Nat) : Int) := Int.emod_lt_of_pos _ (by omega)
  rw [Int.emod_eq_of_lt h3]
  have : ((2 ^ k : Nat) : Int) ≤ ((2 ^ 64 : Nat) : Int) := by exact_mod_cast hk
  have e2 : ((2 ^ 64 : Nat) : Int) = 18446744073709551616 := by decide
  omega

theorem and32 (x : Int) : F2.ev .and .u64 x 4294967295 = x % 4294967296 := and_mask x 32 (by decide)
theorem shr32 (x : Int) : F2.ev .shr .u64 x 32 = x / 4294967296 := by
  show x.fdiv (2 ^ (Nat.min (32 : Int).toNat 64)) = _
  rw [show ((2 : Int) ^ (Nat.min (32 : Int).toNat 64)) = 4294967296 from by decide]
  exact Int.fdiv_eq_ediv_of_nonneg _ (by decide)
theorem shl32 (x : Int) : F2.ev .shl .u64 x 32 = x * 4294967296 % 18446744073709551616 := by
  show IntKind.wrap .u64 (x * 2 ^ (Nat.min (32 : Int).toNat 64)) = _
  rw [show ((2 : Int) ^ (Nat.min (32 : Int).toNat 64)) = 4294967296 from by decide, wrap_u64]

theorem or32 (x y : Int) (hx : U64 x) (hx2 : x % 4294967296 = 0) (hy : 0 ≤ y) (hy2 : y < 4294967296) : F2.ev .or .u64 x y = x + y := by
  obtain ⟨h1, h2⟩ := hx
  show IntKind.wrap .u64 ((BitVec.ofInt 64 x ||| BitVec.ofInt 64 y).toNat : Int) = _
  rw [wrap_u64, BitVec.toNat_or, BitVec.toNat_ofInt, BitVec.toNat_ofInt]
  obtain ⟨m, hm⟩ : ∃ m : Nat, x = (m : Int) * 4294967296 := ⟨(x / 4294967296).toNat, by omega⟩
  obtain ⟨n, hn⟩ : ∃ n : Nat, y = (n : Int) := ⟨y.toNat, by omega⟩
  have hn2 : n < 2 ^ 32 := by have : (2 : Nat) ^ 32 = 4294967296 := by decide
                              omega
  have e0 : ((2 ^ 64 : Nat) : Int) = 18446744073709551616 := by decide
  have e1 : (x % ((2 ^ 64 : Nat) : Int)).toNat = m <<< 32 := by
    rw [e0, Int.emod_eq_of_lt h1 h2, Nat.shiftLeft_eq, show (2 : Nat) ^ 32 = 4294967296 from by decide, hm]
    omega
  have e2 : (y % ((2 ^ 64 : Nat) : Int)).toNat = n := by
    rw [e0, Int.emod_eq_of_lt hy (by omega), hn]; rfl
  rw [e1, e2, ← Nat.shiftLeft_add_eq_or_of_lt hn2, Nat.shiftLeft_eq, show (2 : Nat) ^ 32 = 4294967296 from by decide, Int.natCast_add, Int.natCast_mul]
  have e3 : ((4294967296 : Nat) : Int) = 4294967296 := by decide
  rw [e3, ← hm, ← hn]
  exact Int.emod_eq_of_lt (by omega) (by omega)

/-! ## by numbers of bits -/

theorem ev_shr (k : IntKind) (x y : Int) (h1 : y ≤ k.bits) : F2.ev .shr k x y = x / 2 ^ y.toNat := by
  show x.fdiv (2 ^ (Nat.min y.toNat k.bits)) = _
  have : Nat.min y.toNat k.bits = y.toNat := Nat.min_eq_left (by omega)
  rw [this]
  exact Int.fdiv_eq_ediv_of_nonneg _ (Int.le_of_lt (Int.pow_pos (by decide)))

theorem ev_shl64 (x y : Int) (h1 : y ≤ 64) : F2.ev .shl .u64 x y = x * 2 ^ y.toNat % 18446744073709551616 := by
  show IntKind.wrap .u64 (x * 2 ^ (Nat.min y.toNat 64)) = _
  have : Nat.min y.toNat 64 = y.toNat := Nat.min_eq_left (by omega)
  rw [this, wrap_u64]

theorem and1 (x : Int) : F2.ev .and .u64 x 1 = x % 2 := and_mask x 1 (by decide)

theorem or_low (x y : Int) (k : Nat) (hk : k ≤ 64) (hx : U64 x) (hx2 : x % (2 ^ k : Nat) = 0) (hy : 0 ≤ y) (hy2 : y < (2 ^ k : Nat)) : F2.ev .or .u64 x y = x + y := by
  obtain ⟨h1, h2⟩ := hx
  have hp : 0 < 2 ^ k := Nat.two_pow_pos k
  have hle : 2 ^ k ≤ 2 ^ 64 := Nat.pow_le_pow_right (by decide) hk
  show IntKind.wrap .u64 ((BitVec.ofInt 64 x ||| BitVec.ofInt 64 y).toNat : Int) = _
  rw [wrap_u64, BitVec.toNat_or, BitVec.toNat_ofInt, BitVec.toNat_ofInt]
  have e0 : ((2 ^ 64 : Nat) : Int) = 18446744073709551616 := by decide
  have e64 : (2 : Nat) ^ 64 = 18446744073709551616 := by decide
  obtain ⟨X, rfl⟩ : ∃ X : Nat, x = X := ⟨x.toNat, by omega⟩
  obtain ⟨n, rfl⟩ : ∃ n : Nat, y = (n : Int) := ⟨y.toNat, by omega⟩
  have hX : X % 2 ^ k = 0 := by exact_mod_cast hx2
  have hn2 : n < 2 ^ k := by exact_mod_cast hy2
  have hm : X = (X / 2 ^ k) * 2 ^ k := by have := Nat.div_add_mod X (2 ^ k); rw [hX, Nat.add_zero, Nat.mul_comm] at this; exact this.symm
  have e1 : ((X : Int) % ((2 ^ 64 : Nat) : Int)).toNat = (X / 2 ^ k) <<< k := by
    rw [e0, Int.emod_eq_of_lt h1 h2, Nat.shiftLeft_eq, ← hm]; rfl
  have e2 : ((n : Int) % ((2 ^ 64 : Nat) : Int)).toNat = n := by
    rw [e0, Int.emod_eq_of_lt hy (by omega)]; rfl
  rw [e1, e2, ← Nat.shiftLeft_add_eq_or_of_lt hn2, Nat.shiftLeft_eq, ← hm, Int.natCast_add]
  refine Int.emod_eq_of_lt (by omega) ?_
  -- no more than 64 bits
  have : X / 2 ^ k < 2 ^ (64 - k) := by
    rw [Nat.div_lt_iff_lt_mul hp, ← Nat.pow_add, Nat.sub_add_cancel hk]; omega
  have h4 : (X / 2 ^ k + 1) * 2 ^ k ≤ 2 ^ (64 - k) * 2 ^ k := Nat.mul_le_mul_right _ this
  rw [← Nat.pow_add, Nat.sub_add_cancel hk, Nat.add_mul, ← hm, e64] at h4
  omega

theorem pow_pos' (k : Nat) : (0 : Int) < 2 ^ k := Int.pow_pos (by decide)

theorem pow_split {k : Int} (h : 0 ≤ k) : (2 : Int) ^ (k + 1).toNat = 2 * 2 ^ k.toNat := by
  rw [show (k + 1).toNat = k.toNat + 1 by omega, Int.pow_succ, Int.mul_comm]

/-- one bit more -/
theorem div_bit {n k : Int} (h : 0 ≤ k) : n / 2 ^ k.toNat = 2 * (n / 2 ^ (k + 1).toNat) + n / 2 ^ k.toNat % 2 := by
  have e : n / (2 * 2 ^ k.toNat) = n / 2 ^ k.toNat / 2 := by rw [Int.mul_comm 2, ← Int.ediv_ediv_of_nonneg (Int.le_of_lt (pow_pos' _))]
  rw [pow_split h, e]
  omega

end Go.Proofs.Tx
