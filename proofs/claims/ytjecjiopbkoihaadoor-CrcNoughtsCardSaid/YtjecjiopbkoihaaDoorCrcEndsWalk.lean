/- The walk of CrcEnds. -/
import Derived.Test.YtjecjiopbkoihaaDoorCrcJoinsWalk
import Derived.Test.YtjecjiopbkoihaaDoorCrcMore
namespace Go.Proofs.YtjecjiopbkoihaaDoor.Crc
open Go Go.RowKit Mem

theorem le4_cells (s : BitVec 32) : byts (le4 s) = [.int .u8 (un s % 256), .int .u8 (un s / 256 % 256), .int .u8 (un s / 65536 % 256), .int .u8 (un s / 16777216)] := by
  simp [byts, le4, un]
theorem le4_lt (s : BitVec 32) : ∀ u ∈ le4 s, u < 256 := by
  intro u hu
  have := s.isLt
  simp only [le4, List.mem_cons, List.not_mem_nil, or_false] at hu
  omega
theorem le4_row (s : BitVec 32) (w : World) (E : TypeId) : Row (w.alloc (.cells #[.int .u8 (un s % 256), .int .u8 (un s / 256 % 256), .int .u8 (un s / 65536 % 256), .int .u8 (un s / 16777216)] E)) (w.heap.size + 1) 1 (some ⟨w.heap.size, 0, none⟩) 4 (byts (le4 s)) := by
  rw [le4_cells]
  have := Row.of_own (World.ownsRow_lit (base := 0) (e := E) (size := 1) w #[.int .u8 (un s % 256), .int .u8 (un s / 256 % 256), .int .u8 (un s / 65536 % 256), .int .u8 (un s / 16777216)] 4 (by omega) (by decide) rfl)
  simpa using this

set_option maxHeartbeats 800000 in
theorem ends_walk (A : Option Addr) (n c : Nat) (l : List Nat) (w : World) (ht : Tab w)
    (hr : Row w w.heap.size 1 A n (byts l)) (hn : l.length = n) (hnc : n ≤ c) (hc : c ≤ maxLen) (hl : ∀ u ∈ l, u < 256) :
    Calls Tryd.prog 8 #[.slice A n c] w fun e w' => e = .returned (.bool true) ∧ Below w.heap.size w w' := by
  unfold maxLen at hc
  obtain ⟨i0, hi, hz0, hz1, hz2⟩ := info_parts inf_u8
  obtain ⟨ka, hka1, hka2, hmin⟩ := min_cut1000 n
  obtain ⟨La, hLa⟩ : ∃ L, L = l.take ka := ⟨_, rfl⟩
  have la : La.length = ka := by rw [hLa, List.length_take]; omega
  have ba : ∀ u ∈ La, u < 256 := by rw [hLa]; exact take_lt hl ka
  have ra : Row w w.heap.size 1 A ka (byts La) := by rw [hLa]; exact row_take hr hka2
  have HA := Lib.hid la
  have hu := un_range (sum La)
  clear hr hl hn hLa la
  go_enter Tryd.func8, Tryd.ntmps8
  go_wp2_with fail
  refine (shown_any w ht).mono ?_
  rintro e w1 ⟨rfl, b1⟩
  have hs1 := b1.size
  have hp := ht.pos
  go_wp2_with (first
    | (at_builtin
       refine wpList_append_row _ rfl (.tmp 6) (.tmp 11) 22 rfl w1.heap.size 5 i0 (.int .u8 0) 1 1 Tryd.underlying22 hi hz0 hz1 hz2 rfl (by decide) _ 0 [] rfl (own_lit0 w1 _ _ (Nat.le_refl _)) w.heap.size A ka c (byts La) rfl ((ra.below b1).alloc hs1 _) (byts_one La) (by unfold maxLen; omega) (by omega) (by simp) ?_
       intro A2 c2 w2 hown2 hc2 hg2 hb2
       have b2 : Below w.heap.size w w2 := below_own (b1.alloc hs1 _) (own_lit0 w1 _ _ (Nat.le_refl _)) hs1 (by simp; omega) hg2
       have hs2 := b2.size
       have hs12 : w1.heap.size ≤ w2.heap.size := by have := hg2.size; simp at this; omega
       simp only [Nat.zero_add, List.nil_append] at hown2 hc2
       clear hg2 hb2))
  refine (sum_row La A2 _ ka c2 w2 (ht.below b2 hp) (Row.of_own hown2) HA.out ba (by omega)).mono ?_
  rintro e w' ⟨rfl, rfl⟩
  have h1 : (un (sum (La ++ le4 (sum La))) == 558161692) = true := by rw [residue]; rfl
  go_wp2_with (first
    | (at_builtin
       refine wpList_append_row _ rfl (.tmp 15) (.tmp 27) 22 rfl w1.heap.size 5 i0 (.int .u8 0) 1 1 Tryd.underlying22 hi hz0 hz1 hz2 rfl (by decide) _ ka (byts La) rfl (hown2.alloc _) (w2.heap.size + 1) (some ⟨w2.heap.size, 0, none⟩) 4 4 (byts (le4 (sum La))) rfl (le4_row (sum La) w2 _) (byts_one _) (by unfold maxLen; omega) (by omega) (by simp; omega) ?_
       intro A3 c3 w3 hown3 hc3 hg3 hb3
       have b3 : Below w.heap.size w w3 := below_own (b2.alloc hs2 _) (hown2.alloc _) hs1 (by simp; omega) hg3
       rw [← byts_append] at hown3
       clear hg3 hb3 hown2))
  refine (sum_row (La ++ le4 (sum La)) A3 _ (ka + 4) c3 w3 (ht.below b3 hp) (Row.of_own hown3) (by rw [List.length_append, HA.out]; rfl) (fun u hu => (List.mem_append.1 hu).elim (ba u) (le4_lt _ u)) (by omega)).mono ?_
  rintro e w' ⟨rfl, rfl⟩
  go_wp2_with fail
  go_ret
  exact ⟨by simp, b3⟩
end Go.Proofs.YtjecjiopbkoihaaDoor.Crc
