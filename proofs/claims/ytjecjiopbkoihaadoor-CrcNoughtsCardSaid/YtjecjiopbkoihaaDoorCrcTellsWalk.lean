/- The walk of CrcTells. -/
import Derived.Test.YtjecjiopbkoihaaDoorCrcFarWalk
import Derived.Test.YtjecjiopbkoihaaDoorCrcRef
import Derived.Laws.BytesArg
namespace Go.Proofs.YtjecjiopbkoihaaDoor.Crc
open Go Go.RowKit Mem

theorem inf_u8 : (Tryd.prog.info? 5).map (fun i => (i.zero, i.size, i.bytes)) = some (some (.int .u8 0), 1, 1) := by kernel_rfl

theorem min_cut (n m : Nat) : ∃ k : Nat, k ≤ m ∧ k ≤ n ∧ (if (m : Int) < (n : Int) then (m : Int) else (n : Int)) = (k : Int) := by
  by_cases h : m < n
  · exact ⟨m, Nat.le_refl _, by omega, by rw [if_pos (by omega)]⟩
  · exact ⟨n, by omega, Nat.le_refl _, by rw [if_neg (by omega)]⟩
theorem min_cut2000 (n : Nat) : ∃ k : Nat, k ≤ 2000 ∧ k ≤ n ∧ (if (2000 : Int) < (n : Int) then (2000 : Int) else (n : Int)) = (k : Int) := min_cut n 2000
theorem min_2000 (n : Int) (hn : n ≤ 9223372036854775807) : ∃ k : Int, k ≤ 2000 ∧ (if (2000 : Int) < n then (2000 : Int) else n) = k := by
  by_cases h : 2000 < n
  · exact ⟨2000, by omega, by rw [if_pos h]⟩
  · exact ⟨n, by omega, by rw [if_neg h]⟩

set_option maxHeartbeats 800000 in
theorem tells_walk (A : Option Addr) (n c : Nat) (l : List Nat) (x y : BitVec 32) (m : Int) (w : World) (ht : Tab w) (hr : Row w w.heap.size 1 A n (byts l)) (hn : l.length = n) (hnc : n ≤ c) (hc : c ≤ maxLen) (hl : ∀ u ∈ l, u < 256) (hm : m ≤ 9223372036854775807) :
    Calls Tryd.prog 3 #[.slice A n c, .int .u32 (un x), .int .u32 (un y), .int .i64 m] w fun e w' => e = .returned (.bool true) ∧ Below w.heap.size w w' := by
  unfold maxLen at hc
  obtain ⟨i0, hi, hz0, hz1, hz2⟩ := info_parts inf_u8
  obtain ⟨k, hk1, hk2, hmin⟩ := min_cut2000 n
  obtain ⟨q, hq, hmin2⟩ := min_2000 m hm
  obtain ⟨L, hL⟩ : ∃ L, L = l.take k := ⟨_, rfl⟩
  have hLk : L.length = k := by rw [hL, List.length_take]; omega
  have hLl : ∀ u ∈ L, u < 256 := by rw [hL]; exact take_lt hl k
  have hrL : Row w w.heap.size 1 A k (byts L) := by rw [hL]; exact row_take hr hk2
  have HL := Lib.hid hLk
  clear hr hl hL hn hm hLk
  go_enter Tryd.func3, Tryd.ntmps3
  go_wp2_with fail
  refine (shown_any w ht).mono ?_
  rintro e w1 ⟨rfl, b1⟩
  have t1 := ht.below b1 ht.pos
  have hr1 := hrL.below b1
  have hs1 := b1.size
  go_wp2_with (at_builtin; refine wpList_append_row _ rfl (.tmp 18) (.tmp 19) 22 rfl w1.heap.size 5 i0 (.int .u8 0) 1 1 Tryd.underlying22 hi hz0 hz1 hz2 rfl (by decide) _ 0 [] rfl (World.ownsRow_lit w1 #[] 0 (Nat.le_refl _) (by decide) rfl) w.heap.size A k c (byts L) rfl (hr1.alloc hs1 _) (byts_one L) (by unfold maxLen; omega) (by omega) (by simp) ?_; intro A2 c2 w2 hown2 hc2 hg2 hb2)
  simp only [Nat.zero_add, List.nil_append] at hown2 hb2 hc2
  have b2 : Below w.heap.size w w2 := (b1.alloc hs1 _).grown hg2 (by simp; omega) (fun j hj => by have := own_block_new hj; omega)
  have t2 := ht.below b2 ht.pos
  have hr2 := hrL.below b2
  have ho2 := Row.of_own hown2
  have hcv1 := conv_row L A _ k c w2 hr2 HL.out
  have hcv2 := conv_row L A2 _ k c2 w2 ho2 HL.out
  have T2 := Lib.hid t2; have O2 := Lib.hid ho2; have B2 := Lib.hid b2
  clear hown2 hb2 hc2 hg2 t2 ho2 b2 hr2 hr1 hs1 t1 b1
  go_simp
  go_wp2_with fail
  refine (sum_row L A2 _ k c2 w2 T2.out O2.out HL.out hLl (by omega)).mono ?_
  rintro e w' ⟨rfl, rfl⟩
  go_wp2_with fail
  refine (refSum_str L _ hLl (by rw [HL.out]; omega)).mono ?_
  rintro e w' ⟨rfl, rfl⟩
  go_wp2_with fail
  refine (more_row x L A2 _ k c2 w2 T2.out O2.out HL.out hLl (by omega)).mono ?_
  rintro e w' ⟨rfl, rfl⟩
  go_wp2_with fail
  refine (refMore_str x L _ hLl (by rw [HL.out]; omega)).mono ?_
  rintro e w' ⟨rfl, rfl⟩
  go_wp2_with fail
  refine (join_any x y q w2 T2.out (by omega)).mono ?_
  rintro e w3 ⟨rfl, b3⟩
  go_wp2_with fail
  refine (refJoin_any x y q w3 (by omega)).mono ?_
  rintro e w' ⟨rfl, rfl⟩
  go_wp2_with fail
  go_ret
  exact ⟨by simp, chain_below B2.out b3⟩
end Go.Proofs.YtjecjiopbkoihaaDoor.Crc
