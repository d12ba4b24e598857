/- The walk of CrcJoins. -/
import Derived.Test.YtjecjiopbkoihaaDoorCrcTellsWalk
namespace Go.Proofs.YtjecjiopbkoihaaDoor.Crc
open Go Go.RowKit Mem

theorem min_cut1000 (n : Nat) : ∃ k : Nat, k ≤ 1000 ∧ k ≤ n ∧ (if (1000 : Int) < (n : Int) then (1000 : Int) else (n : Int)) = (k : Int) := min_cut n 1000

set_option maxRecDepth 100000 in
set_option maxHeartbeats 1600000 in
theorem joins_walk (A : Option Addr) (n c : Nat) (l : List Nat) (A' : Option Addr) (n' c' : Nat) (l' : List Nat) (A'' : Option Addr) (n'' c'' : Nat) (l'' : List Nat) (w : World) (ht : Tab w)
    (hr : Row w w.heap.size 1 A n (byts l)) (hn : l.length = n) (hnc : n ≤ c) (hc : c ≤ maxLen) (hl : ∀ u ∈ l, u < 256)
    (hr' : Row w w.heap.size 1 A' n' (byts l')) (hn' : l'.length = n') (hnc' : n' ≤ c') (hc' : c' ≤ maxLen) (hl' : ∀ u ∈ l', u < 256)
    (hr'' : Row w w.heap.size 1 A'' n'' (byts l'')) (hn'' : l''.length = n'') (hnc'' : n'' ≤ c'') (hc'' : c'' ≤ maxLen) (hl'' : ∀ u ∈ l'', u < 256) :
    Calls Tryd.prog 4 #[.slice A n c, .slice A' n' c', .slice A'' n'' c''] w fun e w' => e = .returned (.bool true) ∧ Below w.heap.size w w' := by
  unfold maxLen at hc hc' hc''
  obtain ⟨i0, hi, hz0, hz1, hz2⟩ := info_parts inf_u8
  obtain ⟨ka, hka1, hka2, hmin⟩ := min_cut1000 n
  obtain ⟨kb, hkb1, hkb2, hmin'⟩ := min_cut1000 n'
  obtain ⟨kc, hkc1, hkc2, hmin''⟩ := min_cut1000 n''
  obtain ⟨La, hLa⟩ : ∃ L, L = l.take ka := ⟨_, rfl⟩
  obtain ⟨Lb, hLb⟩ : ∃ L, L = l'.take kb := ⟨_, rfl⟩
  obtain ⟨Lc, hLc⟩ : ∃ L, L = l''.take kc := ⟨_, rfl⟩
  have la : La.length = ka := by rw [hLa, List.length_take]; omega
  have lb : Lb.length = kb := by rw [hLb, List.length_take]; omega
  have lc : Lc.length = kc := by rw [hLc, List.length_take]; omega
  have ba : ∀ u ∈ La, u < 256 := by rw [hLa]; exact take_lt hl ka
  have bb : ∀ u ∈ Lb, u < 256 := by rw [hLb]; exact take_lt hl' kb
  have bc : ∀ u ∈ Lc, u < 256 := by rw [hLc]; exact take_lt hl'' kc
  have ra : Row w w.heap.size 1 A ka (byts La) := by rw [hLa]; exact row_take hr hka2
  have rb : Row w w.heap.size 1 A' kb (byts Lb) := by rw [hLb]; exact row_take hr' hkb2
  have rc : Row w w.heap.size 1 A'' kc (byts Lc) := by rw [hLc]; exact row_take hr'' hkc2
  obtain ⟨M, hM⟩ : ∃ M, M = kb + kc := ⟨_, rfl⟩
  have hadd : (kb : Int) + (kc : Int) = (M : Int) := by omega
  have hM1 : M ≤ 2000 := by omega
  have e1 : (un (join (sum La) (sum Lb) kb) == un (sum (La ++ Lb))) = true := un_eq (by rw [sum_append, lb])
  have e2 : (un (more (sum La) Lb) == un (join (sum La) (sum Lb) kb)) = true := un_eq (by rw [more_join, lb])
  obtain ⟨Z, hZ⟩ : ∃ Z, Z = La ++ Lb ++ Lc := ⟨_, rfl⟩
  have e3 : (un (join (join (sum La) (sum Lb) kb) (sum Lc) kc) == un (sum Z)) = true := un_eq (by rw [hZ, sum_append, sum_append, lb, lc])
  have e4 : (un (join (sum La) (join (sum Lb) (sum Lc) kc) M) == un (sum Z)) = true := un_eq (by rw [hZ, hM, join_join, sum_append, sum_append, lb, lc])
  have e5 : (un (more (join (sum La) (sum Lb) kb) Lc) == un (sum Z)) = true := un_eq (by rw [hZ, more_join, sum_append, sum_append, lb, lc])
  have lz : Z.length = ka + kb + kc := by rw [hZ, List.length_append, List.length_append, la, lb, lc]
  have ball : ∀ u ∈ Z, u < 256 := fun u hu => by rw [hZ] at hu; exact (List.mem_append.1 hu).elim (fun h => (List.mem_append.1 h).elim (ba u) (bb u)) (bc u)
  have HALL := Lib.hid lz
  have HZ := Lib.hid hZ
  have HA := Lib.hid la; have HB := Lib.hid lb; have HC := Lib.hid lc
  clear hr hl hn hr' hl' hn' hr'' hl'' hn'' hLa hLb hLc la lb lc hM hZ lz
  go_enter Tryd.func4, Tryd.ntmps4
  go_wp2_with fail
  refine (shown_any w ht).mono ?_
  rintro e w1 ⟨rfl, b1⟩
  have hs1 := b1.size
  have hp := ht.pos
  go_wp2_with (first
    | (at_builtin
       refine wpList_append_row _ rfl (.tmp 31) (.tmp 32) 22 rfl w1.heap.size 5 i0 (.int .u8 0) 1 1 Tryd.underlying22 hi hz0 hz1 hz2 rfl (by decide) _ 0 [] rfl (own_lit0 w1 _ _ (Nat.le_refl _)) w.heap.size A ka c (byts La) rfl ((ra.below b1).alloc hs1 _) (byts_one La) (by unfold maxLen; omega) (by omega) (by simp) ?_
       intro A2 c2 w2 hown2 hc2 hg2 hb2
       have b2 : Below w.heap.size w w2 := below_own (b1.alloc hs1 _) (own_lit0 w1 _ _ (Nat.le_refl _)) hs1 (by simp; omega) hg2
       have hs2 := b2.size
       have hs12 : w1.heap.size ≤ w2.heap.size := by have := hg2.size; simp at this; omega
       simp only [Nat.zero_add, List.nil_append] at hown2 hc2
       clear hg2 hb2)
    | (at_builtin
       refine wpList_append_row _ rfl (.tmp 33) (.tmp 34) 22 rfl w1.heap.size 5 i0 (.int .u8 0) 1 1 Tryd.underlying22 hi hz0 hz1 hz2 rfl (by decide) _ ka (byts La) rfl hown2 w.heap.size A' kb c' (byts Lb) rfl (rb.below b2) (byts_one Lb) (by unfold maxLen; omega) (by omega) hs12 ?_
       intro A3 c3 w3 hown3 hc3 hg3 hb3
       have b3 : Below w.heap.size w w3 := below_own b2 hown2 hs1 hs2 hg3
       have hs3 := b3.size
       rw [← byts_append] at hown3
       clear hg3 hb3 hown2)
    | (at_builtin
       refine wpList_append_row _ rfl (.tmp 36) (.tmp 37) 22 rfl w3.heap.size 5 i0 (.int .u8 0) 1 1 Tryd.underlying22 hi hz0 hz1 hz2 rfl (by decide) _ 0 [] rfl (own_lit0 w3 _ _ (Nat.le_refl _)) w3.heap.size A3 (ka + kb) c3 (byts (La ++ Lb)) rfl ((Row.of_own hown3).alloc (Nat.le_refl _) _) (byts_one _) (by unfold maxLen; omega) (by omega) (by simp) ?_
       intro A4 c4 w4 hown4 hc4 hg4 hb4
       have b34 : Below w3.heap.size w3 w4 := below_own ((Below.refl _ _).alloc (Nat.le_refl _) _) (own_lit0 w3 _ _ (Nat.le_refl _)) (Nat.le_refl _) (by simp) hg4
       have b4 : Below w.heap.size w w4 := b3.trans (b34.mono hs3)
       have hs4 := b4.size
       have hs34 := b34.size
       simp only [Nat.zero_add, List.nil_append] at hown4 hc4
       clear hg4 hb4)
    | (at_builtin
       refine wpList_append_row _ rfl (.tmp 38) (.tmp 39) 22 rfl w3.heap.size 5 i0 (.int .u8 0) 1 1 Tryd.underlying22 hi hz0 hz1 hz2 rfl (by decide) _ (ka + kb) (byts (La ++ Lb)) rfl hown4 w.heap.size A'' kc c'' (byts Lc) rfl (rc.below b4) (byts_one Lc) (by unfold maxLen; omega) (by omega) (by omega) ?_
       intro A5 c5 w5 hown5 hc5 hg5 hb5
       have b35 : Below w3.heap.size w3 w5 := below_own b34 hown4 (Nat.le_refl _) hs34 hg5
       have b5 : Below w.heap.size w w5 := b3.trans (b35.mono hs3)
       rw [← byts_append, ← HZ.out] at hown5
       clear hg5 hb5 hown4))
  have t5 := ht.below b5 hp
  have b35s := b35.size
  have o5 := Row.of_own hown5
  have o3 := (Row.of_own hown3).below b35
  have ra5 := ra.below b5
  have rb5 := rb.below b5
  have rc5 := rc.below b5
  clear hown3 hown5 b35 b34 b4 b3 b2 ra rb rc b1
  go_wp2_with fail
  refine (sum_row La A _ ka c w5 t5 ra5 HA.out ba (by omega)).mono ?_
  rintro e w' ⟨rfl, rfl⟩
  go_wp2_with fail
  refine (sum_row Lb A' _ kb c' w5 t5 rb5 HB.out bb (by omega)).mono ?_
  rintro e w' ⟨rfl, rfl⟩
  go_wp2_with fail
  refine (sum_row Lc A'' _ kc c'' w5 t5 rc5 HC.out bc (by omega)).mono ?_
  rintro e w' ⟨rfl, rfl⟩
  go_wp2_with fail
  refine (join_nat (sum La) (sum Lb) kb w5 t5 (by omega)).mono ?_
  rintro e w6 ⟨rfl, b6⟩
  have t6 := t5.below b6 t5.pos
  go_wp2_with fail
  refine (join_nat (sum Lb) (sum Lc) kc w6 t6 (by omega)).mono ?_
  rintro e w7 ⟨rfl, b7⟩
  have t7 := t6.below b7 t6.pos
  have b57 := chain_below b6 b7
  have hs57 := b5.size
  go_wp2_with fail
  refine (sum_row (La ++ Lb) A3 _ (ka + kb) c3 w7 t7 (o3.below (b57.mono (b35s))) (by rw [List.length_append, HA.out, HB.out]) (fun u hu => (List.mem_append.1 hu).elim (ba u) (bb u)) (by omega)).mono ?_
  rintro e w' ⟨rfl, rfl⟩
  go_wp2_with fail
  refine (more_row (sum La) Lb A' _ kb c' w7 t7 (rb5.below (b57.mono hs57)) HB.out bb (by omega)).mono ?_
  rintro e w' ⟨rfl, rfl⟩
  go_wp2_with fail
  refine (join_nat _ (sum Lc) kc w7 t7 (by omega)).mono ?_
  rintro e w8 ⟨rfl, b8⟩
  have t8 := t7.below b8 t7.pos
  have b58 := chain_below b57 b8
  go_wp2_with fail
  refine (sum_row Z A5 _ (ka + kb + kc) c5 w8 t8 (o5.below b58) HALL.out ball (by omega)).mono ?_
  rintro e w' ⟨rfl, rfl⟩
  go_wp2_with fail
  refine (join_nat (sum La) _ M w8 t8 (by omega)).mono ?_
  rintro e w9 ⟨rfl, b9⟩
  have t9 := t8.below b9 t8.pos
  have b59 := chain_below b58 b9
  go_wp2_with fail
  refine (sum_row Z A5 _ (ka + kb + kc) c5 w9 t9 (o5.below b59) HALL.out ball (by omega)).mono ?_
  rintro e w' ⟨rfl, rfl⟩
  go_wp2_with fail
  refine (more_row _ Lc A'' _ kc c'' w9 t9 (rc5.below (b59.mono hs57)) HC.out bc (by omega)).mono ?_
  rintro e w' ⟨rfl, rfl⟩
  go_wp2_with fail
  refine (sum_row Z A5 _ (ka + kb + kc) c5 w9 t9 (o5.below b59) HALL.out ball (by omega)).mono ?_
  rintro e w' ⟨rfl, rfl⟩
  go_wp2_with fail
  go_ret
  exact ⟨by simp, chain_below b5 b59⟩
end Go.Proofs.YtjecjiopbkoihaaDoor.Crc
