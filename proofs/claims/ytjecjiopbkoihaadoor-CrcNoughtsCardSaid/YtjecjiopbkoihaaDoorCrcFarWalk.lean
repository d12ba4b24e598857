/- The walk of CrcFar. -/
import Derived.Test.YtjecjiopbkoihaaDoorCrcShown
namespace Go.Proofs.YtjecjiopbkoihaaDoor.Crc
open Go Go.RowKit Mem

theorem chain_below {a b c : World} (h : Below a.heap.size a b) (k : Below b.heap.size b c) : Below a.heap.size a c := h.trans (k.mono h.size)
theorem un_ne {x y : BitVec 32} (h : x ≠ y) : (un x == un y) = false := by
  rw [beq_eq_false_iff_ne]; exact fun e => h (un_inj e)
theorem un_eq {x y : BitVec 32} (h : x = y) : (un x == un y) = true := by subst h; simp
theorem join_nat (a b : BitVec 32) (n : Nat) (w : World) (ht : Tab w) (hn : n ≤ 9223372036854775807) :
    Calls Tryd.prog 15 #[.int .u32 (un a), .int .u32 (un b), .int .i64 (n : Int)] w fun e w' => e = .returned (.int .u32 (un (join a b n))) ∧ Below w.heap.size w w' :=
  join_any a b n w ht (by omega)
theorem join_neg (a b : BitVec 32) (n : Int) (w : World) (ht : Tab w) (hn : n ≤ 0) :
    Calls Tryd.prog 15 #[.int .u32 (un a), .int .u32 (un b), .int .i64 n] w fun e w' => e = .returned (.int .u32 (un (xorB a b))) ∧ Below w.heap.size w w' := by
  have := join_any a b n w ht (by omega)
  rw [show n.toNat = 0 by omega] at this
  exact this
theorem and_mask (n : Int) (m : Nat) (hm : m < 9223372036854775808) : ∃ N : Nat, N ≤ m ∧ bits .and .i64 n (m : Int) = (N : Int) := by
  refine ⟨(BitVec.ofInt 64 n &&& BitVec.ofInt 64 (m : Int)).toNat, ?_, ?_⟩
  · rw [BitVec.toNat_and]
    refine Nat.le_trans Nat.and_le_right ?_
    rw [BitVec.ofInt_natCast, BitVec.toNat_ofNat]
    exact Nat.mod_le _ _
  · have hle : (BitVec.ofInt 64 n &&& BitVec.ofInt 64 (m : Int)).toNat ≤ m := by
      rw [BitVec.toNat_and]
      refine Nat.le_trans Nat.and_le_right ?_
      rw [BitVec.ofInt_natCast, BitVec.toNat_ofNat]
      exact Nat.mod_le _ _
    show IntKind.i64.wrap ((BitVec.ofInt 64 n &&& BitVec.ofInt 64 (m : Int)).toNat : Int) = _
    generalize (BitVec.ofInt 64 n &&& BitVec.ofInt 64 (m : Int)).toNat = q at *
    simp [IntKind.wrap, IntKind.bits, IntKind.signed]
    omega

theorem and_mask40 (n : Int) : ∃ N : Nat, N ≤ 1099511627775 ∧ bits .and .i64 n 1099511627775 = (N : Int) := and_mask n 1099511627775 (by decide)

theorem far_pure (x y : BitVec 32) (n k : Nat) (hk : k ≤ n) : join (join x 0#32 k) y (n - k) = xorB (join x 0#32 n) y := by
  unfold join xorB
  rw [BitVec.xor_zero, BitVec.xor_zero, ← adv_add, show 8 * k + 8 * (n - k) = 8 * n by omega]

set_option maxHeartbeats 800000 in
theorem far_walk (x y : BitVec 32) (n cut : Int) (w : World) (ht : Tab w) :
    Calls Tryd.prog 5 #[.int .u32 (un x), .int .u32 (un y), .int .i64 n, .int .i64 cut] w fun e w' => e = .returned (.bool true) ∧ Below w.heap.size w w' := by
  obtain ⟨N, hN, hand1⟩ := and_mask40 n
  obtain ⟨C, hC, hand2⟩ := and_mask40 cut
  obtain ⟨K, hK⟩ : ∃ K : Nat, K = C % (N + 1) := ⟨_, rfl⟩
  have hKN : K ≤ N := by have := Nat.mod_lt C (show 0 < N + 1 by omega); omega
  have hrem : (C : Int) % ((N : Int) + 1) = (K : Int) := by rw [hK]; simp
  have hsub : (N : Int) - (K : Int) = ((N - K : Nat) : Int) := by omega
  have HK := Lib.hid hK
  have hx1 := w_xor (join x 0#32 N) y
  have hx2 := w_xor x y
  have he1 := un_eq (far_pure x y N K hKN)
  clear hK
  obtain ⟨b, hd1, hd2⟩ : ∃ b, (un (join x 0#32 N) == un (join y 0#32 N)) = b ∧ (un x == un y) = b := by
    by_cases hxy : x = y
    · exact ⟨true, un_eq (by rw [hxy]), un_eq hxy⟩
    · exact ⟨false, un_ne (fun h => hxy (join_inj (n := N) h)), un_ne hxy⟩
  go_enter Tryd.func5, Tryd.ntmps5
  go_wp2_with fail
  refine (shown_any w ht).mono ?_
  rintro e w1 ⟨rfl, b1⟩
  have t1 := ht.below b1 ht.pos
  go_wp2_with fail
  refine (join_nat x 0#32 N _ t1 (by omega)).mono ?_
  rintro e w2 ⟨rfl, b2⟩
  have t2 := t1.below b2 t1.pos
  go_wp2_with fail
  refine (join_nat x 0#32 K _ t2 (by omega)).mono ?_
  rintro e w3 ⟨rfl, b3⟩
  have t3 := t2.below b3 t2.pos
  go_wp2_with fail
  refine (join_nat _ y (N - K) _ t3 (by omega)).mono ?_
  rintro e w4 ⟨rfl, b4⟩
  have t4 := t3.below b4 t3.pos
  go_wp2_with fail
  refine (join_neg x y 0 _ t4 (by omega)).mono ?_
  rintro e w5 ⟨rfl, b5⟩
  have t5 := t4.below b5 t4.pos
  go_wp2_with fail
  refine (join_neg x y _ _ t5 (by omega)).mono ?_
  rintro e w6 ⟨rfl, b6⟩
  have t6 := t5.below b6 t5.pos
  go_wp2_with fail
  refine (join_nat x 0#32 N _ t6 (by omega)).mono ?_
  rintro e w7 ⟨rfl, b7⟩
  have t7 := t6.below b7 t6.pos
  go_wp2_with fail
  refine (join_nat y 0#32 N _ t7 (by omega)).mono ?_
  rintro e w8 ⟨rfl, b8⟩
  go_wp2_with fail
  go_ret
  exact ⟨by simp, chain_below b1 (chain_below b2 (chain_below b3 (chain_below b4 (chain_below b5 (chain_below b6 (chain_below b7 b8))))))⟩
end Go.Proofs.YtjecjiopbkoihaaDoor.Crc
