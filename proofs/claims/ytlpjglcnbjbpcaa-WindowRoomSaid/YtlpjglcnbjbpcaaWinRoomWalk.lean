/- The walk of WindowRoom. -/
import Derived.Test.YtlpjglcnbjbpcaaWinSteps
namespace Go.Proofs.Ytlpjglcnbjbpcaa.Win
open Go Go.RowKit Mem Conv Row

def RoomRel (w0 : World) (g Z n : Nat) (v7 v8 : Value) (w : World) : Prop :=
  ∃ (k last : Nat) (es : List Ent), v7 = .int .u32 (last : Int) ∧ v8 = .int .i64 (k : Int) ∧ k ≤ n ∧ k ≤ 100 ∧ last ≤ k ∧ WS w0 w g Z last es (fun _ => False)

set_option maxRecDepth 100000 in
set_option maxHeartbeats 3200000 in
theorem room_walk (size : Int) (A : Option Addr) (n c : Nat) (l : List StepV) (w : World) (hr : Steps w A n l) :
    Calls Try.prog 9 #[.int .i64 size, .slice A n c] w fun e w' => e = .returned (.bool true) ∧ Below w.heap.size w w' := by
  obtain ⟨M, hM1, hand⟩ := Mask.and_mask16 size
  obtain ⟨S, hS⟩ : ∃ S, S = M % 21 := ⟨_, rfl⟩
  have hrem : (M : Int) % 21 = (S : Int) := by omega
  obtain ⟨Z, hZ⟩ : ∃ Z, Z = max S 1 := ⟨_, rfl⟩
  have hS20 : S ≤ 20 := by omega
  have hmx : max (S : Int) 1 = (Z : Int) := by omega
  have hZ1 : 1 ≤ Z := by omega
  have hZ20 : Z ≤ 20 := by omega
  clear hS hZ
  go_enter Try.func9, Try.ntmps9
  go_wp2_with fail
  refine (shown_any w).mono ?_
  rintro e w1 ⟨rfl, b1⟩
  have hs1 := b1.size
  go_wp2_with fail
  refine (ws_new w w1 (fun _ => False) S (by omega) b1 (fun _ h => h.elim)).mono ?_
  rintro e w2 ⟨g, rfl, W2, b2⟩
  rw [show (max (S : Int) 1).toNat = Z by omega] at W2
  have hW2 := Lib.hid W2
  clear W2
  go_wp2_with fail
  go_loopw [7, 8] (RoomRel w g Z n) (fun _ i _ => n - (intOf i).toNat)
  case atStart => exact ⟨0, 0, [], rfl, rfl, by omega, by omega, by omega, hW2.out⟩
  case round =>
    clear hW2
    obtain ⟨k, last, es, rfl, rfl, hkn, hk100, hlk, hW⟩ := hrel
    obtain ⟨hb1, hb2, hb3, _, _⟩ := hW.bound
    have HW := Lib.hid hW
    obtain ⟨m, hm⟩ : ∃ m, m = es.length := ⟨_, rfl⟩
    rw [← hm] at hb1 hb3
    have HM := Lib.hid hm
    clear hW hm
    by_cases hcont : k < n ∧ k < 100
    · obtain ⟨hltn, hlt100⟩ := hcont
      obtain ⟨hln, hst⟩ := hr
      obtain ⟨b, o, rfl, hbb, hcells⟩ := hst (by omega)
      have hk0 := hcells k (by omega)
      obtain ⟨s, hs⟩ : ∃ s, s = l[k]'(by omega) := ⟨_, rfl⟩
      rw [← hs] at hk0
      have hseq : s.seq ≤ 4294967295 := hk0.2.2.2.2.2.1
      obtain ⟨hc0, -, hc2, -, -⟩ := hk0.below HW.out.below hbb
      clear hs hcells hk0
      by_cases hkind : s.kind = 2
      · rw [hkind] at hc0
        obtain ⟨r, hrr⟩ : ∃ r, r = ackN last m s.seq := ⟨_, rfl⟩
        have hrm : r ≤ m := by rw [hrr]; unfold ackN; omega
        obtain ⟨q, hq⟩ : ∃ q, q = m - r := ⟨_, rfl⟩
        have hqi : (m : Int) - (r : Int) = (q : Int) := by omega
        have hd : decide (m < r) = false := by simp; omega
        have HR := Lib.hid hrr; have HQ := Lib.hid hq
        clear hrr hq
        go_wp2_with fail
        refine (ws_len HW.out).mono ?_
        rw [← HM.out]
        rintro e w3 ⟨rfl, rfl⟩
        go_wp2_with fail
        refine (ws_ack HW.out s.seq hseq).mono ?_
        rw [← HM.out, ← HR.out]
        rintro e w4 ⟨rfl, W4, -⟩
        have HW4 := Lib.hid W4
        clear W4
        go_wp2_with fail
        refine (ws_len HW4.out).mono ?_
        rw [List.length_drop, ← HM.out, ← HQ.out]
        rintro e w5 ⟨rfl, rfl⟩
        go_wp2_with fail
        go_roundw
        case rel => exact ⟨k + 1, last, _, rfl, by go_num, by omega, by omega, by omega, HW4.out⟩
        case measure => simp [intOf]; omega
      · have hkb : (s.kind == 2) = false := by simpa using hkind
        obtain ⟨l1, hl1⟩ : ∃ l1, l1 = last + 1 := ⟨_, rfl⟩
        have hl1i : (last : Int) + 1 = (l1 : Int) := by omega
        have hl1b : l1 ≤ 101 := by omega
        have HL1 := Lib.hid hl1
        clear hl1
        by_cases hroom : m < Z
        · obtain ⟨m1, hm1⟩ : ∃ m1, m1 = m + 1 := ⟨_, rfl⟩
          have hm1i : (m : Int) + 1 = (m1 : Int) := by omega
          have HM1 := Lib.hid hm1
          clear hm1
          go_wp2_with fail
          refine (ws_len HW.out).mono ?_
          rw [← HM.out]
          rintro e w3 ⟨rfl, rfl⟩
          go_wp2_with fail
          refine (ws_push_room HW.out none 0 0 [] Row.none_ rfl (by decide) (fun _ => rfl) (by omega) (fun b o h => by cases h) (by rw [← HM.out]; exact hroom) (by omega)).mono ?_
          rw [← HL1.out]
          rintro e w9 ⟨en', rfl, -, -, -, W9, -⟩
          have HW9 := Lib.hid W9
          clear W9
          go_wp2_with fail
          refine (ws_len HW9.out).mono ?_
          rw [List.length_append, List.length_singleton, ← HM.out, ← HM1.out]
          rintro e w5 ⟨rfl, rfl⟩
          go_wp2_with fail
          go_roundw
          case rel => exact ⟨k + 1, l1, _, rfl, by go_num, by omega, by omega, by have := HL1.out; omega, HW9.out⟩
          case measure => simp [intOf]; omega
        · go_wp2_with fail
          refine (ws_len HW.out).mono ?_
          rw [← HM.out]
          rintro e w3 ⟨rfl, rfl⟩
          go_wp2_with fail
          refine (ws_push_full HW.out _ (.inl (by rw [← HM.out]; omega))).mono ?_
          rintro e w10 ⟨rfl, W10, -⟩
          have HW10 := Lib.hid W10
          clear W10
          go_wp2_with fail
          refine (ws_len HW10.out).mono ?_
          rw [← HM.out]
          rintro e w5 ⟨rfl, rfl⟩
          go_wp2_with fail
          go_roundw
          case rel => exact ⟨k + 1, last, _, rfl, by go_num, by omega, by omega, by omega, HW10.out⟩
          case measure => simp [intOf]; omega
    · rcases (by omega : (¬ k < n) ∨ (k < n ∧ k = 100)) with hge | ⟨hlt', h100⟩
      all_goals
        clear hcont
        try subst h100
        go_wp2_with fail
        refine (ws_len HW.out).mono ?_
        rw [← HM.out]
        rintro e w3 ⟨rfl, rfl⟩
        have HB := Lib.hid HW.out.below
        go_wp2_with fail
        go_ret
        exact ⟨rfl, HB.out⟩
end Go.Proofs.Ytlpjglcnbjbpcaa.Win
