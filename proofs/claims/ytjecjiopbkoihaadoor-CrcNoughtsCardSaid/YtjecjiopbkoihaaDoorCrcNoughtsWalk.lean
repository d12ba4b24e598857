/- The walk of CrcNoughts. -/
import Derived.Test.YtjecjiopbkoihaaDoorCrcBurstsWalk
namespace Go.Proofs.YtjecjiopbkoihaaDoor.Crc
open Go Go.RowKit Mem

def nil0 (i : Nat) : List Nat := List.replicate i 0
def zsum (i : Nat) : BitVec 32 := sum (nil0 i)
def ztab : List Nat := [0, 3523407757, 1104745215, 4282505490, 558161692, 3324180253, 2982322595, 2641158014, 1696784233, 3859354798, 3817498742, 1804055020, 2077607535, 259278466, 3518724551, 3620930535, 3971697493, 3387945405, 1729875789, 3658008943, 265657229, 1090831755, 2821304800, 1923097668, 2747386400, 3922661007, 2951527986, 444224179, 2154854377, 190104870, 278197]
theorem ztab_tells : ∀ i : Fin 31, (zsum i.val).toNat = ztab.getD i.val 0 := by decide +kernel
theorem ztab_unlike : ∀ i k : Fin 31, k.val < i.val → ztab.getD k.val 0 ≠ ztab.getD i.val 0 := by decide +kernel
theorem zsum_unlike (i k : Nat) (hi : i < 31) (hk : k < i) : zsum k ≠ zsum i := by
  intro h
  have e := congrArg BitVec.toNat h
  rw [ztab_tells ⟨k, by omega⟩, ztab_tells ⟨i, hi⟩] at e
  exact ztab_unlike ⟨i, hi⟩ ⟨k, by omega⟩ hk e
def zval (k : Nat) : Value := .int .u32 (un (zsum k))
def zs (i : Nat) : List Value := (List.range i).map zval
theorem zs_length (i : Nat) : (zs i).length = i := by simp [zs]
theorem zs_at (i k : Nat) (h : k < i) : (zs i)[k]? = some (zval k) := by simp [zs, h]
theorem zs_succ (i : Nat) : zs (i + 1) = zs i ++ [zval i] := by simp [zs, List.range_succ]
theorem nil0_lt (i : Nat) : ∀ u ∈ nil0 i, u < 256 := by
  intro u hu
  have := List.eq_of_mem_replicate hu
  omega
theorem nil0_length (i : Nat) : (nil0 i).length = i := by simp [nil0]
theorem und_ne {x y : BitVec 32} (h : x = y) : (un x != un y) = false := by subst h; simp
theorem made_own {w : World} {base n : Nat} {E : TypeId} {g : Nat} (h : w.ownsRow base E 1 (.slice (some ⟨g, 0, none⟩) n n) n (madeCells (Value.int .u8 0).cells (n * 1)).toList) : w.ownsRow base E 1 (.slice (some ⟨g, 0, none⟩) n n) n (byts (nil0 n)) := by
  rw [Nat.mul_one, show (Value.int .u8 0).cells = #[.int .u8 0] from rfl, toList_madeCells_one] at h
  unfold nil0; rw [byts_replicate]; exact h
theorem below_made {B : Nat} {w w1 w2 : World} (h : Below B w w1) (hs : B ≤ w1.heap.size) (hg : w1.grownBy w2 none) : Below B w w2 := h.grown hg hs (fun k hk => by cases hk)
theorem one_row (w : World) (E : TypeId) (v : Value) (h1 : v.oneCell' = true) : Row (w.alloc (.cells #[v] E)) (w.heap.size + 1) 1 (some ⟨w.heap.size, 0, none⟩) 1 [v] := by
  have := Row.of_own (World.ownsRow_lit (base := 0) (e := E) (size := 1) w #[v] 1 (by omega) (by decide) rfl)
  simpa using this

theorem kept_made {w w' : World} {base n size : Nat} {e : TypeId} {v : Value} {xs : List Value} (h : w.ownsRow base e size v n xs) (hg : w.grownBy w' none) : w'.ownsRow base e size v n xs :=
  h.kept hg (by cases h' : v.ownBlock with
    | none => exact .inl rfl
    | some k => exact .inr (by simp))
theorem zsum_row (i : Nat) (A : Option Addr) (B c : Nat) (w : World) (ht : Tab w) (hr : Row w B 1 A i (byts (nil0 i))) (hm : i ≤ 9223372036854775807) :
    Calls Tryd.prog 11 #[.slice A i c] w fun e w' => e = .returned (.int .u32 (un (zsum i))) ∧ w = w' := sum_row (nil0 i) A B i c w ht hr (nil0_length i) (nil0_lt i) hm

set_option maxHeartbeats 1600000 in
theorem noughts_walk (A : Option Addr) (n c : Nat) (l : List Nat) (m : Int) (w : World) (ht : Tab w)
    (hr : Row w w.heap.size 1 A n (byts l)) (hn : l.length = n) (hnc : n ≤ c) (hc : c ≤ maxLen) (hl : ∀ u ∈ l, u < 256) :
    Calls Tryd.prog 9 #[.slice A n c, .int .i64 m] w fun e w' => e = .returned (.bool true) ∧ Below w.heap.size w w' := by
  unfold maxLen at hc
  obtain ⟨i0, hi, hz0, hz1, hz2⟩ := info_parts inf_u8
  obtain ⟨i1, hi1, hy0, hy1, hy2⟩ := info_parts inf_u32
  obtain ⟨ka, hka1, hka2, hmin⟩ := min_cut1000 n
  obtain ⟨La, hLa⟩ : ∃ L, L = l.take ka := ⟨_, rfl⟩
  have la : La.length = ka := by rw [hLa, List.length_take]; omega
  have ba : ∀ u ∈ La, u < 256 := by rw [hLa]; exact take_lt hl ka
  have ra : Row w w.heap.size 1 A ka (byts La) := by rw [hLa]; exact row_take hr hka2
  obtain ⟨M, hM1, hand⟩ := and_mask16 m
  obtain ⟨N, hN⟩ : ∃ N, N = M % 3001 := ⟨_, rfl⟩
  have hNN : N ≤ 3000 := by omega
  have hrem : (M : Int) % 3001 = (N : Int) := by omega
  have HA := Lib.hid la
  have e1 : (un (join (sum La) (sum (nil0 N)) N) != un (sum (La ++ nil0 N))) = false := und_ne (by rw [sum_append, nil0_length])
  have e2 : (un (more (sum La) (nil0 N)) != un (sum (La ++ nil0 N))) = false := und_ne (by rw [sum_more])
  clear hr hl hn hLa la hN
  go_enter Tryd.func9, Tryd.ntmps9
  go_wp2_with fail
  refine (shown_any w ht).mono ?_
  rintro e w1 ⟨rfl, b1⟩
  have hs1 := b1.size
  have hp := ht.pos
  go_wp2_with (first
    | (at_builtin
       refine wpList_append_row _ rfl (.tmp 14) (.tmp 19) 22 rfl w1.heap.size 5 i0 (.int .u8 0) 1 1 Tryd.underlying22 hi hz0 hz1 hz2 rfl (by decide) _ 0 [] rfl (own_lit0 w1 _ _ (Nat.le_refl _)) w.heap.size A ka c (byts La) rfl ((ra.below b1).alloc hs1 _) (byts_one La) (by unfold maxLen; omega) (by omega) (by simp) ?_
       intro A2 c2 w2 hown2 hc2 hg2 hb2
       have b2 : Below w.heap.size w w2 := below_own (b1.alloc hs1 _) (own_lit0 w1 _ _ (Nat.le_refl _)) hs1 (by simp; omega) hg2
       have hs2 := b2.size
       simp only [Nat.zero_add, List.nil_append] at hown2 hc2
       clear hg2 hb2 b1 hs1))
  refine (sum_row La A2 _ ka c2 w2 (ht.below b2 hp) (Row.of_own hown2) HA.out ba (by omega)).mono ?_
  rintro e w' ⟨rfl, rfl⟩
  go_wp2_with (first
    | (refine wpList_make_full _ rfl (.tmp 26) (.tmp 26) 22 rfl w2.heap.size 5 i0 (.int .u8 0) 1 Tryd.underlying22 hi hz0 hz1 .i64 .i64 (N : Int) (N : Int) N rfl rfl rfl rfl (by rw [hz2]; omega) (by unfold maxLen; omega) (Nat.le_refl _) ?_
       intro w3 hown3 hg3
       have b23 : Below w2.heap.size w2 w3 := below_made (Below.refl _ _) (Nat.le_refl _) hg3
       have hs23 := b23.size
       have hown3 := made_own hown3
       clear hg3)
    | (at_builtin
       refine wpList_append_row _ rfl (.tmp 28) (.tmp 29) 22 rfl w3.heap.size 5 i0 (.int .u8 0) 1 1 Tryd.underlying22 hi hz0 hz1 hz2 rfl (by decide) _ 0 [] rfl (own_lit0 w3 _ _ (Nat.le_refl _)) w2.heap.size A2 ka c2 (byts La) rfl (((Row.of_own hown2).below b23).alloc hs23 _) (byts_one La) (by unfold maxLen; omega) (by omega) (by simp) ?_
       intro A4 c4 w4 hown4 hc4 hg4 hb4
       have b34 : Below w3.heap.size w3 w4 := below_own ((Below.refl _ _).alloc (Nat.le_refl _) _) (own_lit0 w3 _ _ (Nat.le_refl _)) (Nat.le_refl _) (by simp) hg4
       have hs34 := b34.size
       simp only [Nat.zero_add, List.nil_append] at hown4 hc4
       clear hg4 hb4)
    | (at_builtin
       refine wpList_append_row _ rfl (.tmp 30) (.tmp 31) 22 rfl w3.heap.size 5 i0 (.int .u8 0) 1 1 Tryd.underlying22 hi hz0 hz1 hz2 rfl (by decide) _ ka (byts La) rfl hown4 w3.heap.size (some ⟨w2.heap.size, 0, none⟩) N N (byts (nil0 N)) rfl ((Row.of_own hown3).below b34) (byts_one _) (by unfold maxLen; omega) (by omega) hs34 ?_
       intro A5 c5 w5 hown5 hc5 hg5 hb5
       have b35 : Below w3.heap.size w3 w5 := below_own b34 hown4 (Nat.le_refl _) hs34 hg5
       rw [← byts_append] at hown5
       clear hg5 hb5 hown4))
  have b25 : Below w2.heap.size w2 w5 := b23.trans (b35.mono hs23)
  have b5 : Below w.heap.size w w5 := b2.trans (b25.mono hs2)
  have t5 := ht.below b5 hp
  have O5 := Row.of_own hown5
  have O2 := (Row.of_own hown2).below b25
  have O3 := (Row.of_own hown3).below b35
  have hs35 := b35.size
  have lall : (La ++ nil0 N).length = ka + N := by rw [List.length_append, HA.out, nil0_length]
  have ball : ∀ u ∈ La ++ nil0 N, u < 256 := fun u hu => (List.mem_append.1 hu).elim (ba u) (nil0_lt N u)
  have HALL := Lib.hid lall
  clear lall hown5 hown2 hown3 b25 b35 b34 b23 b2 ra
  refine (sum_row (La ++ nil0 N) A5 _ (ka + N) c5 w5 t5 O5 HALL.out ball (by omega)).mono ?_
  rintro e w' ⟨rfl, rfl⟩
  go_wp2_with fail
  refine (sum_row (nil0 N) _ _ N N w5 t5 O3 (nil0_length N) (nil0_lt N) (by omega)).mono ?_
  rintro e w' ⟨rfl, rfl⟩
  go_wp2_with fail
  refine (join_nat (sum La) (sum (nil0 N)) N w5 t5 (by omega)).mono ?_
  rintro e w6 ⟨rfl, b56⟩
  have b6 := chain_below b5 b56
  have t6 := t5.below b56 t5.pos
  go_wp2_with fail
  refine (more_row (sum La) (nil0 N) _ _ N N w6 t6 (O3.below (b56.mono hs35)) (nil0_length N) (nil0_lt N) (by omega)).mono ?_
  rintro e w' ⟨rfl, rfl⟩
  go_wp2_with fail
  have hs6 := b6.size
  clear b5 t5 O5 O2 O3 b56 e1 e2
  go_loopw [9, 10] (fun v i wr => ∃ (j : Nat) (A9 : Option Addr) (c9 : Nat), j ≤ 31 ∧ i = .int .i64 j ∧ v = .slice A9 j c9 ∧ wr.ownsRow w6.heap.size 23 1 (.slice A9 j c9) j (zs j) ∧ Below w6.heap.size w6 wr) (fun _ i _ => 31 - (intOf i).toNat)
  case atStart => exact ⟨0, none, 0, by omega, rfl, rfl, World.ownsRow_nil _ _ _ _, Below.refl _ _⟩
  case round =>
    obtain ⟨j, A9, c9, hj, rfl, rfl, hown, bel⟩ := hrel
    have bw : Below w.heap.size w wr := b6.trans (bel.mono hs6)
    by_cases hlt : j < 31
    · have hsr := bel.size
      have tr := ht.below bw hp
      have HB := Lib.hid bel
      have HJ : j ≤ 30 := by omega
      clear bel bw t6 b6
      go_wp2_with (first
        | (refine wpList_make_full _ rfl (.tmp 52) (.tmp 52) 22 rfl wr.heap.size 5 i0 (.int .u8 0) 1 Tryd.underlying22 hi hz0 hz1 .i64 .i64 (j : Int) (j : Int) j rfl rfl rfl rfl (by rw [hz2]; omega) (by unfold maxLen; omega) (Nat.le_refl _) ?_
           intro w7 hown7 hg7
           have b7 : Below wr.heap.size wr w7 := below_made (Below.refl _ _) (Nat.le_refl _) hg7
           have hs7 := b7.size
           have O7 := Row.of_own (made_own hown7)
           have hown7' := kept_made hown hg7
           clear hown7 hown))
      have t7 := tr.below b7 tr.pos
      refine (zsum_row j _ _ j w7 t7 O7 (by omega)).mono ?_
      rintro e w' ⟨rfl, rfl⟩
      have H7 := Lib.hid hown7'
      clear hown7' O7
      go_wp2_with fail
      go_loop [12] (fun q => ∃ k : Nat, k ≤ j ∧ q = .int .i64 k) (fun q => j - (intOf q).toNat)
      case atStart => exact ⟨0, Nat.zero_le _, rfl⟩
      case round =>
        obtain ⟨k, hk, rfl⟩ := hrel
        by_cases hkj : k < j
        · obtain ⟨g, cap, hv, hgb, hglt⟩ := H7.out.form (by omega)
          obtain rfl : A9 = some ⟨g, 0, none⟩ := by injection hv
          have hc7 : w7.cell? ⟨g, k, none⟩ = some (.int .u32 (un (zsum k))) := by rw [H7.out.cellAt k (by omega), zs_at j k hkj]; rfl
          have hne := un_ne (zsum_unlike j k hlt hkj)
          clear hv
          go_wp2
          go_round
          case rel => exact ⟨k + 1, by omega, by go_num⟩
          case measure => simp [intOf]; omega
        · go_wp2_with (first
            | (at_builtin
               refine wpList_append_row _ rfl (.tmp 67) (.tmp 69) 36 rfl w6.heap.size 23 i1 (.int .u32 0) 1 4 Tryd.underlying36 hi1 hy0 hy1 hy2 rfl (by decide) _ j (zs j) rfl (H7.out.alloc _) (w7.heap.size + 1) (some ⟨w7.heap.size, 0, none⟩) 1 1 [zval j] rfl (one_row w7 _ _ rfl) (by intro u hu; simp only [List.mem_singleton] at hu; subst hu; rfl) (by unfold maxLen; omega) (by omega) (by simp; omega) ?_
               intro A8 c8 w8 hown8 hc8 hg8 hb8
               have b8 : Below w6.heap.size w6 w8 := below_own ((HB.out.trans (b7.mono hsr)).alloc (by omega) _) (H7.out.alloc _) (Nat.le_refl _) (by simp; omega) hg8
               rw [← zs_succ] at hown8
               have H8 := Lib.hid hown8
               clear hown8 hg8 hb8 hc8))
          exact ⟨⟨j + 1, A8, c8, by omega, by go_num, rfl, H8.out, b8⟩, by simp [intOf]; omega⟩
    · obtain rfl : j = 31 := by omega
      go_wp2
      go_ret
      exact ⟨rfl, bw⟩
end Go.Proofs.YtjecjiopbkoihaaDoor.Crc
