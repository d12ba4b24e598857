/- Numbers cut off by a mask. -/
import Derived.Test.YtlpjglcnbjbpcaaProg
import Derived.WalkKit
namespace Go.Proofs.Ytlpjglcnbjbpcaa.Mask
open Go Go.RowKit

theorem and_mask (n : Int) (m : Nat) (hm : m < 9223372036854775808) : ∃ N : Nat, N ≤ m ∧ bits .and .i64 n (m : Int) = (N : Int) := by
  refine ⟨(BitVec.ofInt 64 n &&& BitVec.ofInt 64 (m : Int)).toNat, ?_, ?_⟩
  · rw [BitVec.toNat_and]
    refine Nat.le_trans Nat.and_le_right ?_
    rw [BitVec.ofInt_natCast, BitVec.toNat_ofNat]
    exact Nat.mod_le _ _
  · have hle : (BitVec.ofInt 64 n &&& BitVec.ofInt 64 (m : Int)).toNat ≤ m := by
      rw [BitVec.toNat_and]
      refine Nat.le_trans Nat.and_le_right ?_
      rw [BitVec.ofInt_natCast, BitVec.toNat_ofNat]
      exact Nat.mod_le _ _
    show IntKind.i64.wrap ((BitVec.ofInt 64 n &&& BitVec.ofInt 64 (m : Int)).toNat : Int) = _
    generalize (BitVec.ofInt 64 n &&& BitVec.ofInt 64 (m : Int)).toNat = q at *
    simp [IntKind.wrap, IntKind.bits, IntKind.signed]
    omega

theorem and_mask16 (n : Int) : ∃ N : Nat, N ≤ 65535 ∧ bits .and .i64 n 65535 = (N : Int) := and_mask n 65535 (by decide)
end Go.Proofs.Ytlpjglcnbjbpcaa.Mask
