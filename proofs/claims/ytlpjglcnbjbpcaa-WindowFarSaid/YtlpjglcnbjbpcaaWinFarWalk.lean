/- The walk of WindowFar. -/
import Derived.Test.YtlpjglcnbjbpcaaWinShown
import Derived.Test.YtlpjglcnbjbpcaaMask
namespace Go.Proofs.Ytlpjglcnbjbpcaa.Win
open Go Go.RowKit Mem

def FarRel (w2 : World) (t N : Nat) (v7 : Value) (w : World) : Prop :=
  ∃ k m : Nat, v7 = .int .i64 (k : Int) ∧ k = m + 1 ∧ m ≤ N ∧ Taker w t m ∧ Only (fun b => b = t) w2 w
def FarRel2 (w2 : World) (t N last : Nat) (v : Value) (w : World) : Prop :=
  ∃ k : Nat, v = .int .i64 (k : Int) ∧ k ≤ N + 1 ∧ Taker w t last ∧ Only (fun b => b = t) w2 w

set_option maxRecDepth 4000 in
set_option maxHeartbeats 1600000 in
theorem far_walk (n : Int) (seq : Nat) (hs : seq ≤ 4294967295) (w : World) :
    Calls Try.prog 5 #[.int .i64 n, .int .u32 (seq : Int)] w fun e w' => e = .returned (.bool true) ∧ Below w.heap.size w w' := by
  obtain ⟨M, hM1, hand⟩ := Mask.and_mask16 n
  obtain ⟨N, hN⟩ : ∃ N, N = M % 101 := ⟨_, rfl⟩
  have hNN : N ≤ 100 := by omega
  have hrem : (M : Int) % 101 = (N : Int) := by omega
  clear hN
  go_enter Try.func5, Try.ntmps5
  go_wp2_with fail
  refine (shown_any w).mono ?_
  rintro e w1 ⟨rfl, b1⟩
  go_wp2_with fail
  refine (newTaker_ex w1).mono ?_
  rintro e w2 ⟨t, rfl, T2, ht1, ht2, b2⟩
  have hT2 := Lib.hid T2
  have hs1 := b1.size
  have hB2 := Lib.hid (b1.trans (b2.mono hs1))
  clear T2 b1 b2
  go_wp2_with fail
  go_loopw [7] (FarRel w2 t N) (fun i _ => N + 1 - (intOf i).toNat)
  case atStart => exact ⟨1, 0, rfl, rfl, by omega, hT2.out, Only.refl _ _⟩
  case round =>
    clear hT2
    obtain ⟨k, m, rfl, hkm, hmN, hT, hO⟩ := hrel
    have HT := Lib.hid hT; have HO := Lib.hid hO
    have HM := Lib.hid hkm
    have hk4 : k ≤ 101 := by omega
    clear hT hO
    by_cases hlt : k ≤ N
    · clear hkm
      go_wp2_with fail
      have hmm := HM.out
      rw [hmm]
      refine (take_yes wr t m HT.out (by omega)).mono ?_
      rintro e w4 ⟨rfl, T4, o4⟩
      rw [← hmm] at T4
      rw [← hmm]
      have hT4 := Lib.hid T4; have hO4 := Lib.hid o4
      clear T4 o4 hmm
      go_wp2_with fail
      refine (take_no w4 t k k hT4.out (by omega) (by omega)).mono ?_
      rintro e w5 ⟨rfl, rfl⟩
      go_wp2_with fail
      go_roundw
      case rel => exact ⟨k + 1, k, by go_num, rfl, by omega, hT4.out, HO.out.trans' hO4.out⟩
      case measure => simp [intOf]; omega
    · have hmN' : m = N := by omega
      subst hmN'
      clear hkm hk4
      obtain ⟨m1, hm1⟩ : ∃ m1, m1 = m + 1 := ⟨_, rfl⟩
      have hm1i : (m : Int) + 1 = (m1 : Int) := by omega
      have HM1 := Lib.hid hm1
      have hm2 : m1 ≤ 101 := by omega
      clear hm1
      by_cases hy : seq = m1
      · have he : ((seq : Int) == (m1 : Int)) = true := by simp; omega
        subst hy
        go_wp2_with fail
        have hmm := HM1.out
        rw [hmm]
        refine (take_yes wr t m HT.out (by omega)).mono ?_
        rintro e w4 ⟨rfl, T4, o4⟩
        rw [← hmm] at T4
        rw [← hmm]
        have hT4 := Lib.hid T4; have hO4 := Lib.hid (HO.out.trans' o4)
        clear T4 o4 hmm
        go_wp2_with fail
        go_loopw [10] (FarRel2 w2 t m seq) (fun i _ => m + 1 - (intOf i).toNat)
        case atStart => exact ⟨0, rfl, by omega, hT4.out, hO4.out⟩
        case round =>
          clear hT4 hO4
          obtain ⟨k, rfl, hk, hT, hO⟩ := hrel
          have HT5 := Lib.hid hT; have HO5 := Lib.hid hO
          clear hT hO
          by_cases hlt : k ≤ m
          · go_wp2_with fail
            refine (take_no _ t seq k HT5.out (by have := HM1.out; omega) (by omega)).mono ?_
            rintro e w5 ⟨rfl, rfl⟩
            go_wp2_with fail
            go_roundw
            case rel => exact ⟨k + 1, by go_num, by omega, HT5.out, HO5.out⟩
            case measure => simp [intOf]; omega
          · go_wp2_with fail
            refine (last_any _ t seq HT5.out).mono ?_
            rintro e w5 ⟨rfl, rfl⟩
            go_wp2_with fail
            go_ret
            exact ⟨rfl, hB2.out.trans (HO5.out.below hB2.out.size (fun b hb => by omega))⟩
      · have he : ((seq : Int) == (m1 : Int)) = false := by simp; omega
        go_wp2_with fail
        refine (take_no _ t m seq HT.out (by have := HM1.out; omega) (by omega)).mono ?_
        rintro e w5 ⟨rfl, rfl⟩
        go_wp2_with fail
        go_loopw [10] (FarRel2 w2 t m m) (fun i _ => m + 1 - (intOf i).toNat)
        case atStart => exact ⟨0, rfl, by omega, HT.out, HO.out⟩
        case round =>
          clear HT HO
          obtain ⟨k, rfl, hk, hT, hO⟩ := hrel
          have HT5 := Lib.hid hT; have HO5 := Lib.hid hO
          clear hT hO
          by_cases hlt : k ≤ m
          · go_wp2_with fail
            refine (take_no _ t m k HT5.out (by omega) (by omega)).mono ?_
            rintro e w5 ⟨rfl, rfl⟩
            go_wp2_with fail
            go_roundw
            case rel => exact ⟨k + 1, by go_num, by omega, HT5.out, HO5.out⟩
            case measure => simp [intOf]; omega
          · go_wp2_with fail
            refine (last_any _ t m HT5.out).mono ?_
            rintro e w5 ⟨rfl, rfl⟩
            go_wp2_with fail
            go_ret
            exact ⟨rfl, hB2.out.trans (HO5.out.below hB2.out.size (fun b hb => by omega))⟩
end Go.Proofs.Ytlpjglcnbjbpcaa.Win
