/- The walk of CrcBursts. -/
import Derived.Test.YtjecjiopbkoihaaDoorCrcLinearWalk
namespace Go.Proofs.YtjecjiopbkoihaaDoor.Crc
open Go Go.RowKit Mem

theorem min_cut500 (n : Nat) : ∃ k : Nat, k ≤ 500 ∧ k ≤ n ∧ (if (500 : Int) < (n : Int) then (500 : Int) else (n : Int)) = (k : Int) := min_cut n 500
theorem and_mask16 (n : Int) : ∃ N : Nat, N ≤ 65535 ∧ bits .and .i64 n 65535 = (N : Int) := and_mask n 65535 (by decide)
theorem lit4_row (w : World) (E : TypeId) : Row (w.alloc (.cells #[.int .u8 1, .int .u8 2, .int .u8 3, .int .u8 4] E)) (w.heap.size + 1) 1 (some ⟨w.heap.size, 0, none⟩) 4 (byts [1, 2, 3, 4]) := by
  have := Row.of_own (World.ownsRow_lit (base := 0) (e := E) (size := 1) w #[.int .u8 1, .int .u8 2, .int .u8 3, .int .u8 4] 4 (by omega) (by decide) rfl)
  simpa [byts] using this
theorem wrap_pow2 (r : Nat) (h : r < 8) : IntKind.u8.wrap (2 ^ r) = ((pow2 r : Nat) : Int) := by
  have : ∀ r : Fin 8, IntKind.u8.wrap (2 ^ r.val) = ((pow2 r.val : Nat) : Int) := by decide
  exact this ⟨r, h⟩

set_option maxHeartbeats 1600000 in
theorem bursts_walk (A : Option Addr) (n c : Nat) (l : List Nat) (at_ : Int) (t : BitVec 32) (w : World) (ht : Tab w)
    (hr : Row w w.heap.size 1 A n (byts l)) (hn : l.length = n) (hnc : n ≤ c) (hc : c ≤ maxLen) (hl : ∀ u ∈ l, u < 256) :
    Calls Tryd.prog 6 #[.slice A n c, .int .i64 at_, .int .u32 (un t)] w fun e w' => e = .returned (.bool true) ∧ Below w.heap.size w w' := by
  unfold maxLen at hc
  obtain ⟨i0, hi, hz0, hz1, hz2⟩ := info_parts inf_u8
  obtain ⟨ka, hka1, hka2, hmin⟩ := min_cut500 n
  obtain ⟨La, hLa⟩ : ∃ L, L = l.take ka := ⟨_, rfl⟩
  have la : La.length = ka := by rw [hLa, List.length_take]; omega
  have ba : ∀ u ∈ La, u < 256 := by rw [hLa]; exact take_lt hl ka
  have ra : Row w w.heap.size 1 A ka (byts La) := by rw [hLa]; exact row_take hr hka2
  obtain ⟨L, hL⟩ : ∃ L, L = La ++ [1, 2, 3, 4] := ⟨_, rfl⟩
  obtain ⟨N, hN⟩ : ∃ N, N = ka + 4 := ⟨_, rfl⟩
  have lL : L.length = N := by rw [hL, List.length_append, la, hN]; rfl
  have bL : ∀ u ∈ L, u < 256 := by
    intro u hu
    rw [hL] at hu
    rcases List.mem_append.1 hu with h | h
    · exact ba u h
    · simp at h; omega
  obtain ⟨M, hM1, hand⟩ := and_mask16 at_
  obtain ⟨P, hP⟩ : ∃ P, P = M % (8 * N - 31) := ⟨_, rfl⟩
  have hPN : P < 8 * N - 31 := by rw [hP]; exact Nat.mod_lt _ (by omega)
  have hNi : (ka : Int) + 4 = (N : Int) := by omega
  have hrem : (M : Int) % (8 * (N : Int) - 31) = (P : Int) := by
    rw [hP, show (8 * (N : Int) - 31) = ((8 * N - 31 : Nat) : Int) by omega]; simp
  have HA := Lib.hid la; have HL := Lib.hid lL; have HLL := Lib.hid hL; have HN := Lib.hid hN
  have hN4 : 4 ≤ N := by omega
  have hN5 : N ≤ 504 := by omega
  have hu := un_range t
  clear hr hl hn hLa la lL hL hN hP
  go_enter Tryd.func6, Tryd.ntmps6
  go_wp2_with fail
  refine (shown_any w ht).mono ?_
  rintro e w1 ⟨rfl, b1⟩
  have hs1 := b1.size
  have hp := ht.pos
  go_wp2_with (first
    | (at_builtin
       refine wpList_append_row _ rfl (.tmp 12) (.tmp 17) 22 rfl w1.heap.size 5 i0 (.int .u8 0) 1 1 Tryd.underlying22 hi hz0 hz1 hz2 rfl (by decide) _ 0 [] rfl (own_lit0 w1 _ _ (Nat.le_refl _)) w.heap.size A ka c (byts La) rfl ((ra.below b1).alloc hs1 _) (byts_one La) (by unfold maxLen; omega) (by omega) (by simp) ?_
       intro A2 c2 w2 hown2 hc2 hg2 hb2
       have b2 : Below w.heap.size w w2 := below_own (b1.alloc hs1 _) (own_lit0 w1 _ _ (Nat.le_refl _)) hs1 (by simp; omega) hg2
       have hs2 := b2.size
       have hs12 : w1.heap.size ≤ w2.heap.size := by have := hg2.size; simp at this; omega
       simp only [Nat.zero_add, List.nil_append] at hown2 hc2
       clear hg2 hb2)
    | (at_builtin
       refine wpList_append_row _ rfl (.tmp 18) (.tmp 19) 22 rfl w1.heap.size 5 i0 (.int .u8 0) 1 1 Tryd.underlying22 hi hz0 hz1 hz2 rfl (by decide) _ ka (byts La) rfl (hown2.alloc _) (w2.heap.size + 1) (some ⟨w2.heap.size, 0, none⟩) 4 4 (byts [1, 2, 3, 4]) rfl (lit4_row w2 _) (byts_one _) (by unfold maxLen; omega) (by omega) (by simp; omega) ?_
       intro A3 c3 w3 hown3 hc3 hg3 hb3
       have b3 : Below w.heap.size w w3 := below_own (b2.alloc hs2 _) (hown2.alloc _) hs1 (by simp; omega) hg3
       have hs3 := b3.size
       rw [← byts_append, ← HLL.out, ← HN.out] at hown3
       rw [← HN.out]
       clear hg3 hb3 hown2)
    | (at_builtin
       refine wpList_append_row _ rfl (.tmp 21) (.tmp 22) 22 rfl w3.heap.size 5 i0 (.int .u8 0) 1 1 Tryd.underlying22 hi hz0 hz1 hz2 rfl (by decide) _ 0 [] rfl (own_lit0 w3 _ _ (Nat.le_refl _)) w3.heap.size A3 N c3 (byts L) rfl ((Row.of_own hown3).alloc (Nat.le_refl _) _) (byts_one L) (by unfold maxLen; omega) (by omega) (by simp) ?_
       intro A4 c4 w4 hown4 hc4 hg4 hb4
       have b34 : Below w3.heap.size w3 w4 := below_own ((Below.refl _ _).alloc (Nat.le_refl _) _) (own_lit0 w3 _ _ (Nat.le_refl _)) (Nat.le_refl _) (by simp) hg4
       simp only [Nat.zero_add, List.nil_append] at hown4 hc4
       clear hg4 hb4))
  obtain ⟨g, cap, hv, hgb, hglt⟩ := hown4.form (by omega)
  obtain rfl : A4 = some ⟨g, 0, none⟩ := by injection hv
  have HF := Lib.hid (part_zero (~~~ 0#32) L P t)
  clear hv hc4 hc3 hc2
  rw [hrem]
  have HR := Lib.hid hrem
  clear hrem
  go_loopw [9] (fun i wr => ∃ (j : Nat) (o : List Nat), j ≤ 32 ∧ i = .int .i64 j ∧ o.length = N ∧ (∀ u ∈ o, u < 256) ∧ Part (~~~ 0#32) L o P t j ∧
      wr.ownsRow w3.heap.size 5 1 (.slice (some ⟨g, 0, none⟩) N c4) N (byts o) ∧ Below w3.heap.size w3 wr) (fun i _ => 32 - (intOf i).toNat)
  case atStart => exact ⟨0, L, Nat.zero_le _, rfl, HL.out, bL, HF.out, hown4, b34⟩
  case round =>
    obtain ⟨j, o, hj, rfl, lo, bo, part, hown, bel⟩ := hrel
    clear hown4 b34 b2
    by_cases hlt : j < 32
    · have hbit := w_bit t j hlt
      have LO := Lib.hid lo
      have BEL := Lib.hid bel
      cases hb : bitB t j
      · have hbit' : bits .and .u32 (un t / 2 ^ j) 1 = 0 := by rw [hbit, hb]; rfl
        have HP := Lib.hid (part_no part hb)
        have HO := Lib.hid hown
        clear hbit hb part hown lo bel hown3
        go_wp2
        go_roundw
        case rel => exact ⟨j + 1, o, by omega, by go_num, LO.out, bo, HP.out, HO.out, BEL.out⟩
        case measure => simp [intOf]; omega
      · have hbit' : bits .and .u32 (un t / 2 ^ j) 1 = 1 := by rw [hbit, hb]; rfl
        obtain ⟨K, hK⟩ : ∃ K, K = P + j := ⟨_, rfl⟩
        have hKN : K < 8 * N := by omega
        obtain ⟨q, hq⟩ : ∃ q, q = K / 8 := ⟨_, rfl⟩
        obtain ⟨r, hr⟩ : ∃ r, r = K % 8 := ⟨_, rfl⟩
        have hr8 : r < 8 := by omega
        have hqN : q < N := by omega
        have hKi : (P : Int) + (j : Int) = (K : Int) := by omega
        have hqi : (K : Int) / 8 = (q : Int) := by omega
        have hri : (K : Int) % 8 = (r : Int) := by omega
        have hKb : K ≤ 4032 := by omega
        have HP := Lib.hid (part_yes part hb hlt hK (by rw [HL.out]; exact hKN) (by rw [lo, HL.out]))
        have hw8 := wrap_pow2 r hr8
        have hx := w_xor8 (bte o q) (pow2 r) (byte_lt bo q) (pow2_lt r hr8)
        have hxl := xor8_lt (bte o q) (pow2 r) (byte_lt bo q) (pow2_lt r hr8)
        have hcell : wr.cell? ⟨g, q, none⟩ = some (.int .u8 (bte o q)) := by rw [hown.cellAt q (by omega)]; exact byts_getD _ _ (by rw [lo]; exact hqN)
        have hfro := hown.frozenAt q
        have HO := Lib.hid (hown.stored q (.int .u8 (bte o q ^^^ pow2 r : Nat))).1
        have HQ := Lib.hid hq; have HRR := Lib.hid hr
        clear hbit hb part hown lo bel hown3 hK hq hr
        have bo' : ∀ u ∈ o.set q (bte o q ^^^ pow2 r), u < 256 := fun u hu => (List.mem_or_eq_of_mem_set hu).elim (bo u) (fun h => by rw [h]; exact hxl)
        have hgb' : w3.heap.size ≤ g := hgb
        go_wp2
        refine ⟨⟨j + 1, o.set q (bte o q ^^^ pow2 r), by omega, by go_num, by rw [List.length_set]; exact LO.out, bo', ?_, ?_, BEL.out.setCell hgb' _⟩, by simp [intOf]; omega⟩
        · rw [HQ.out, HRR.out]; exact HP.out
        · rw [byts_set]; exact HO.out
    · obtain rfl : j = 32 := by omega
      have hd := part_all part
      have O3 := (Row.of_own hown3).below bel
      have O4 := Row.of_own hown
      obtain ⟨b, hd1, hd2⟩ : ∃ b, (un (sum L) == un (sum o)) = b ∧ (un t == 0) = b := by
        by_cases h0 : t = 0#32
        · exact ⟨true, un_eq (hd.2 h0), by rw [h0]; rfl⟩
        · exact ⟨false, un_ne (fun h => h0 (hd.1 h)), by rw [beq_eq_false_iff_ne]; exact fun h => h0 (un_inj (h.trans (by rfl : (0 : Int) = un 0#32)))⟩
      have b3r : Below w.heap.size w wr := b3.trans (bel.mono hs3)
      have tr := ht.below b3r hp
      have LO := Lib.hid lo
      have BB := Lib.hid b3r
      clear hd part hown hown3 bel lo b3r
      go_wp2_with fail
      refine (sum_row L A3 _ N c3 wr tr O3 HL.out bL (by omega)).mono ?_
      rintro e w' ⟨rfl, rfl⟩
      go_wp2_with fail
      refine (sum_row o _ _ N c4 wr tr O4 LO.out bo (by omega)).mono ?_
      rintro e w' ⟨rfl, rfl⟩
      go_wp2_with fail
      go_ret
      exact ⟨by simp, BB.out⟩
end Go.Proofs.YtjecjiopbkoihaaDoor.Crc
