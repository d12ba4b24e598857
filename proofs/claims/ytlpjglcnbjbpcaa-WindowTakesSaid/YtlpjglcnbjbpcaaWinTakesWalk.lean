/- The walk of WindowTakes. -/
import Derived.Test.YtlpjglcnbjbpcaaWinShown
namespace Go.Proofs.Ytlpjglcnbjbpcaa.Win
open Go Go.RowKit Mem

def TakesRel (w2 : World) (t n : Nat) (v5 v6 : Value) (w : World) : Prop :=
  ∃ k m : Nat, v5 = .int .u32 (m : Int) ∧ v6 = .int .i64 (k : Int) ∧ m ≤ k ∧ k ≤ n ∧ k ≤ 300 ∧ Taker w t m ∧ Only (fun b => b = t) w2 w

set_option maxRecDepth 4000 in
set_option maxHeartbeats 800000 in
theorem takes_walk (A : Option Addr) (n c : Nat) (l : List Nat) (w : World) (hr : Row w w.heap.size 1 A n (l.map fun c : Nat => Value.int .u32 (c : Int))) (hl : l.length = n) (hb : ∀ u ∈ l, u ≤ 4294967295) :
    Calls Try.prog 3 #[.slice A n c] w fun e w' => e = .returned (.bool true) ∧ Below w.heap.size w w' := by
  go_enter Try.func3, Try.ntmps3
  go_wp2_with fail
  refine (shown_any w).mono ?_
  rintro e w1 ⟨rfl, b1⟩
  go_wp2_with fail
  refine (newTaker_ex w1).mono ?_
  rintro e w2 ⟨t, rfl, T2, ht1, ht2, b2⟩
  have hT2 := Lib.hid T2
  have hs1 := b1.size
  have hr2 := Lib.hid (hr.below (b1.trans (b2.mono hs1)))
  have hB2 := Lib.hid (b1.trans (b2.mono hs1))
  clear T2 hr b1 b2
  go_wp2_with fail
  go_loopw [5, 6] (TakesRel w2 t n) (fun _ i _ => n - (intOf i).toNat)
  case atStart => exact ⟨0, 0, rfl, rfl, by omega, by omega, by omega, hT2.out, Only.refl _ _⟩
  case round =>
    clear hT2
    obtain ⟨k, m, rfl, rfl, hmk, hkn, hk3, hT, hO⟩ := hrel
    have HT := Lib.hid hT; have HO := Lib.hid hO
    clear hT hO
    by_cases hlt : k < n
    · by_cases h3 : k < 300
      · obtain ⟨b, o, u, rfl, hbb, hu, hcell⟩ := hr2.out.at_ hlt
        obtain ⟨x, hx⟩ : ∃ x, x = l[k]'(by omega) := ⟨_, rfl⟩
        have hux : u = .int .u32 (x : Int) := by
          rw [List.getElem?_map, List.getElem?_eq_getElem (by omega)] at hu
          rw [hx]; simpa using hu.symm
        have hxb : x ≤ 4294967295 := by rw [hx]; exact hb _ (List.getElem_mem _)
        subst hux
        have hbw : b ≠ t := by omega
        have hc2 : wr.cell? ⟨b, o + k, none⟩ = some (.int .u32 (x : Int)) := (HO.out.cell (p := ⟨b, o + k, none⟩) (by show b < _; omega) hbw).trans hcell
        obtain ⟨m1, hm1⟩ : ∃ m1, m1 = m + 1 := ⟨_, rfl⟩
        have hm1i : (m : Int) + 1 = (m1 : Int) := by omega
        have HM := Lib.hid hm1
        have hm2 : m1 ≤ 4294967295 := by omega
        clear hx hu hcell hm1
        by_cases hy : x = m1
        · have he : ((x : Int) == (m1 : Int)) = true := by simp; omega
          clear hxb
          subst hy
          go_wp2_with fail
          have hmm := HM.out
          rw [hmm]
          refine (take_yes wr t m HT.out (by omega)).mono ?_
          rintro e w4 ⟨rfl, T4, o4⟩
          rw [← hmm] at T4
          have hT4 := Lib.hid T4; have hO4 := Lib.hid o4
          clear T4 o4 hmm
          go_wp2_with fail
          refine (last_any w4 t x hT4.out).mono ?_
          rintro e w5 ⟨rfl, rfl⟩
          go_wp2_with fail
          go_roundw
          case rel => exact ⟨k + 1, x, rfl, by go_num, by have := HM.out; omega, by omega, by omega, hT4.out, HO.out.trans' hO4.out⟩
          case measure => simp [intOf]; omega
        · have he : ((x : Int) == (m1 : Int)) = false := by simp; omega
          go_wp2_with fail
          refine (take_no wr t m x HT.out (by have := HM.out; omega) hxb).mono ?_
          rintro e w4 ⟨rfl, rfl⟩
          go_wp2_with fail
          refine (last_any wr t m HT.out).mono ?_
          rintro e w5 ⟨rfl, rfl⟩
          go_wp2_with fail
          go_roundw
          case rel => exact ⟨k + 1, m, rfl, by go_num, by omega, by omega, by omega, HT.out, HO.out⟩
          case measure => simp [intOf]; omega
      · have h4 : k = 300 := by omega
        subst h4
        go_wp2_with fail
        go_ret
        exact ⟨rfl, hB2.out.trans (HO.out.below hB2.out.size (fun b hb => by omega))⟩
    · go_wp2_with fail
      go_ret
      exact ⟨rfl, hB2.out.trans (HO.out.below hB2.out.size (fun b hb => by omega))⟩
end Go.Proofs.Ytlpjglcnbjbpcaa.Win
