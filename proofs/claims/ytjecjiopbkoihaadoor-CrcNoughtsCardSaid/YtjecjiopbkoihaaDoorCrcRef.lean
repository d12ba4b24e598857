/- The walks of the document's own CRC: step, More, Sum, Join. -/
import Derived.Test.YtjecjiopbkoihaaDoorCrcWalk
namespace Go.Proofs.YtjecjiopbkoihaaDoor.Crc
open Go Go.RowKit Mem

theorem step_any (x : BitVec 32) (w : World) :
    Calls Tryd.prog 18 #[.int .u32 (un x)] w fun e w' => e = .returned (.int .u32 (un (stp x))) ∧ w = w' := by
  have hu := un_range x
  cases h : x.getLsbD 0
  · have h1 := w_odd x h
    have H2 := Lib.hid (w_step0 x h)
    clear h
    go_enter Tryd.func18, Tryd.ntmps18
    go_wp2
    go_ret
    exact ⟨by rw [← H2.out]; rfl, rfl⟩
  · have h1 := w_even x h
    have H2 := Lib.hid (w_step1 x h)
    clear h
    go_enter Tryd.func18, Tryd.ntmps18
    go_wp2
    go_ret
    exact ⟨by rw [← H2.out]; rfl, rfl⟩

/-- j steps behind k bytes. -/
def mid (x : BitVec 32) (l : List Nat) (k j : Nat) : BitVec 32 := adv j (xorB (fst x l k) (byteB (bte l k)))
theorem mid_succ (x : BitVec 32) (l : List Nat) (k j : Nat) : stp (mid x l k j) = mid x l k (j + 1) := (adv_succ' j _).symm
theorem mid_last (x : BitVec 32) (l : List Nat) (k : Nat) (hk : k < l.length) : mid x l k 8 = fst x l (k + 1) := (fold_take (~~~ x) l k hk).symm

theorem refMore_any (x : BitVec 32) (s : ByteArray) (w : World) (hm : s.size ≤ 9223372036854775807) :
    Calls Tryd.prog 14 #[.int .u32 (un x), .string s] w fun e w' => e = .returned (.int .u32 (un (more x (sb s)))) ∧ w = w' := by
  have hn : 4294967295 - un x = un (fst x (sb s) 0) := w_sub x
  have HN := Lib.hid (w_sub (fst x (sb s) (sb s).length))
  have hu := un_range x
  go_enter Tryd.func14, Tryd.ntmps14
  go_wp2
  clear hn
  go_loop [0, 5] (fun v i => ∃ k : Nat, k ≤ s.size ∧ i = .int .i64 k ∧ v = .int .u32 (un (fst x (sb s) k))) (fun _ i => s.size - (intOf i).toNat)
  case atStart => exact ⟨0, Nat.zero_le _, rfl, rfl⟩
  case round =>
    obtain ⟨k, hk, rfl, rfl⟩ := hrel
    have hu' := un_range (fst x (sb s) k)
    by_cases hlt : k < s.size
    · have hb : (s[k]'hlt).toNat = bte (sb s) k := sb_at s k hlt
      have hb1 : bte (sb s) k < 256 := byte_lt (sb_lt s) k
      have hbx : bits .xor .u32 (un (fst x (sb s) k)) (bte (sb s) k) = un (mid x (sb s) k 0) := w_byte (fst x (sb s) k) (bte (sb s) k) hb1
      have HS := Lib.hid (mid_last x (sb s) k (by rw [sb_length]; exact hlt))
      go_wp2
      go_loop [0, 6] (fun v i => ∃ j : Nat, j ≤ 8 ∧ i = .int .i64 j ∧ v = .int .u32 (un (mid x (sb s) k j))) (fun _ i => 8 - (intOf i).toNat)
      case atStart => exact ⟨0, Nat.zero_le _, rfl, rfl⟩
      case round =>
        obtain ⟨j, hj, rfl, rfl⟩ := hrel
        by_cases hj8 : j < 8
        · go_wp2_with (go_at_call 18; refine (step_any _ _).mono ?_; rintro e w' ⟨rfl, rfl⟩)
          go_round
          case rel => exact ⟨j + 1, by omega, by go_num, by rw [mid_succ]⟩
          case measure => simp [intOf]; omega
        · obtain rfl : j = 8 := by omega
          go_wp2
          go_round
          case rel => exact ⟨k + 1, by omega, by go_num, by rw [HS.out]⟩
          case measure => simp [intOf]; omega
    · obtain rfl : k = s.size := by omega
      go_wp2
      go_ret
      exact ⟨by have := HN.out; rw [sb_length] at this; rw [this]; simp [fst, more, notB, ← sb_length], rfl⟩

theorem refSum_any (s : ByteArray) (w : World) (hm : s.size ≤ 9223372036854775807) :
    Calls Tryd.prog 12 #[.string s] w fun e w' => e = .returned (.int .u32 (un (sum (sb s)))) ∧ w = w' := by
  go_enter Tryd.func12, Tryd.ntmps12
  go_wp2_with (go_at_call 14; refine (refMore_any 0#32 s _ hm).mono ?_; rintro e w' ⟨rfl, rfl⟩)
  go_ret
  exact ⟨rfl, rfl⟩

theorem refMore_str (x : BitVec 32) (l : List Nat) (w : World) (hl : ∀ u ∈ l, u < 256) (hm : l.length ≤ 9223372036854775807) :
    Calls Tryd.prog 14 #[.int .u32 (un x), .string (strOf l)] w fun e w' => e = .returned (.int .u32 (un (more x l))) ∧ w = w' := by
  have := refMore_any x (strOf l) w (by rw [strOf_size]; exact hm)
  rw [sb_strOf hl] at this
  exact this
theorem refSum_str (l : List Nat) (w : World) (hl : ∀ u ∈ l, u < 256) (hm : l.length ≤ 9223372036854775807) :
    Calls Tryd.prog 12 #[.string (strOf l)] w fun e w' => e = .returned (.int .u32 (un (sum l))) ∧ w = w' := by
  have := refSum_any (strOf l) w (by rw [strOf_size]; exact hm)
  rw [sb_strOf hl] at this
  exact this
theorem adv_8 (k j : Nat) (a : BitVec 32) : stp (adv (8 * k + j) a) = adv (8 * k + (j + 1)) a := (adv_succ' _ a).symm

theorem refJoin_any (a b : BitVec 32) (n : Int) (w : World) (hn : n ≤ 9223372036854775807) :
    Calls Tryd.prog 16 #[.int .u32 (un a), .int .u32 (un b), .int .i64 n] w fun e w' => e = .returned (.int .u32 (un (join a b n.toNat))) ∧ w = w' := by
  have HX := Lib.hid (w_xor (adv (8 * n.toNat + 0) a) b)
  go_enter Tryd.func16, Tryd.ntmps16
  go_wp2
  go_loop [0, 7] (fun v i => ∃ k : Nat, k ≤ n.toNat ∧ i = .int .i64 k ∧ v = .int .u32 (un (adv (8 * k + 0) a))) (fun _ i => n.toNat - (intOf i).toNat)
  case atStart => exact ⟨0, Nat.zero_le _, rfl, rfl⟩
  case round =>
    obtain ⟨k, hk, rfl, rfl⟩ := hrel
    by_cases hlt : (k : Int) < n
    · go_wp2
      go_loop [0, 8] (fun v i => ∃ j : Nat, j ≤ 8 ∧ i = .int .i64 j ∧ v = .int .u32 (un (adv (8 * k + j) a))) (fun _ i => 8 - (intOf i).toNat)
      case atStart => exact ⟨0, Nat.zero_le _, rfl, rfl⟩
      case round =>
        obtain ⟨j, hj, rfl, rfl⟩ := hrel
        by_cases hj8 : j < 8
        · go_wp2_with (go_at_call 18; refine (step_any _ _).mono ?_; rintro e w' ⟨rfl, rfl⟩)
          go_round
          case rel => exact ⟨j + 1, by omega, by go_num, by rw [adv_8]⟩
          case measure => simp [intOf]; omega
        · obtain rfl : j = 8 := by omega
          go_wp2
          go_round
          case rel => exact ⟨k + 1, by omega, by go_num, by rw [show 8 * (k + 1) + 0 = 8 * k + 8 by omega]⟩
          case measure => simp [intOf]; omega
    · obtain rfl : k = n.toNat := by omega
      go_wp2
      go_ret
      exact ⟨by have := HX.out; simp only [Nat.add_zero] at this; rw [this]; rfl, rfl⟩
end Go.Proofs.YtjecjiopbkoihaaDoor.Crc
