/- The walk of WindowTimes. -/
import Derived.Test.YtlpjglcnbjbpcaaWinShown
namespace Go.Proofs.Ytlpjglcnbjbpcaa.Win
open Go Go.RowKit Mem Conv

def TimesRel (w0 : World) (g n : Nat) (v7 v8 v9 : Value) (w : World) : Prop :=
  ∃ (k now at_ : Nat) (en : Ent), v7 = .int .u64 (now : Int) ∧ v8 = .int .u64 (at_ : Int) ∧ v9 = .int .i64 (k : Int) ∧ k ≤ n ∧ k ≤ 40 ∧ now ≤ 5 + 30 * k ∧ at_ ≤ now ∧
    en.x = bX ∧ en.tm = at_ ∧ ((k = 0 ∧ en.told = false) ∨ (0 < k ∧ en.told = true)) ∧ WS w0 w g 1 1 [en] (fun _ => False)

set_option maxRecDepth 8000 in
set_option maxHeartbeats 1600000 in
theorem times_walk (wait : Nat) (hw : wait ≤ 18446744073709551615) (A : Option Addr) (n c : Nat) (l : List Nat) (w : World) (hr : Row w w.heap.size 1 A n (byts l)) (hl : l.length = n) (hb : ∀ u ∈ l, u < 256) :
    Calls Try.prog 4 #[.int .u64 (wait : Int), .slice A n c] w fun e w' => e = .returned (.bool true) ∧ Below w.heap.size w w' := by
  have kc := conv_const
  have wc1 : IntKind.i64.wrap 1 = 1 := IntWalk.i64_in _ (by omega)
  obtain ⟨N, hN⟩ : ∃ N, N = wait % 51 := ⟨_, rfl⟩
  have hNN : N ≤ 50 := by omega
  have hrem : (wait : Int) % 51 = (N : Int) := by omega
  clear hN
  go_enter Try.func4, Try.ntmps4
  go_wp2_with fail
  refine (shown_any w).mono ?_
  rintro e w1 ⟨rfl, b1⟩
  have hs1 := b1.size
  go_wp2_with fail
  refine (ws_new w w1 (fun _ => False) 1 (by decide) b1 (fun _ h => h.elim)).mono ?_
  rintro e w2 ⟨g, rfl, W2, b2⟩
  have hW2 := Lib.hid W2
  have hlt2 := W2.lt.2
  clear W2
  go_wp2_with fail
  have b3 : Below w2.heap.size w2 (w2.alloc (.cells #[.int .u8 120] 5 (1, 2))) := (Below.refl _ _).alloc (Nat.le_refl _) _
  refine (ws_push_room (hW2.out.step b3) (some ⟨w2.heap.size, 0, none⟩) 1 1 bX (row_new w2 5 bX (1, 2) _ _ rfl (by simp)) rfl (by decide) (fun h => by cases h) (by omega) (fun b o h => by cases h; omega) (by decide) (by decide)).mono ?_
  rintro e w3 ⟨en, rfl, hx, htold, htm, W3, k3⟩
  have hW3 := Lib.hid W3
  clear W3 hW2 k3 b3
  go_wp2_with fail
  go_loopw [7, 8, 9] (TimesRel w g n) (fun _ _ i _ => n - (intOf i).toNat)
  case atStart => exact ⟨0, 5, 0, en, rfl, rfl, rfl, by omega, by omega, by omega, by omega, hx, htm, .inl ⟨rfl, htold⟩, hW3.out⟩
  case round =>
    clear hW3 htold htm hx
    obtain ⟨k, now, at_, en, rfl, rfl, rfl, hkn, hk4, hnow, hat, hx, htm, hto, hW⟩ := hrel
    have HW := Lib.hid hW
    have HB := Lib.hid hW.below
    clear hW
    by_cases hcont : k < n ∧ k < 40
    · obtain ⟨hlt, h40⟩ := hcont
      obtain ⟨b, o, u, hA, hbb, hu, hcell⟩ := hr.at_ hlt
      have hux := byts_at hu (by omega)
      subst hA hux
      obtain ⟨x, hxx⟩ : ∃ x, x = l.getD k 0 := ⟨_, rfl⟩
      rw [← hxx] at hcell
      have hx256 : x < 256 := by rw [hxx]; exact byte_lt hb k
      have hc2 : wr.cell? ⟨b, o + k, none⟩ = some (.int .u8 (x : Int)) := (HB.out.cell (p := ⟨b, o + k, none⟩) hbb).trans hcell
      obtain ⟨y, hy⟩ : ∃ y, y = x % 31 := ⟨_, rfl⟩
      have hy30 : y ≤ 30 := by omega
      have hyi : (x : Int) % 31 = (y : Int) := by omega
      obtain ⟨now1, hn1⟩ : ∃ now1, now1 = now + y := ⟨_, rfl⟩
      have hn1i : (now : Int) + (y : Int) = (now1 : Int) := by omega
      have hn1b : now1 ≤ 1205 := by omega
      have hnn : now ≤ now1 := by omega
      have hn1c : now1 ≤ 5 + 30 * (k + 1) := by omega
      have HR := Lib.hid hr
      clear hu hcell hxx hy hn1 hr
      have hxl : ∀ e ∈ [en], e.x.length ≤ 70368744177664 := by intro e he; simp at he; rw [he, hx]; decide
      have HXL := Lib.hid hxl; have HTO := Lib.hid hto; have HTM := Lib.hid htm
      clear hxl hto htm
      go_wp2_with fail
      refine (ws_due HW.out now1 N (by omega) (by omega) HXL.out).mono ?_
      rintro e w4 ⟨outs, Ar, cr, Fr, rfl, W4, S4, hmap, k4, -, hs4⟩
      have HW4 := Lib.hid (W4.weaken (H' := fun _ => False) (fun k hk => hk.elim))
      clear W4
      cases hag : again now1 N en
      · have hmap' : outs.map (fun o => (o.seq, o.x)) = [] := hmap.trans (due_one_no now1 N 1 _ hag)
        obtain rfl := map_nil' hmap'
        have hag' := hag
        unfold again at hag'
        have hk0 : 0 < k := by
          rcases HTO.out with ⟨_, h⟩ | ⟨h, _⟩
          · rw [h] at hag'; simp at hag'
          · exact h
        have htrue : en.told = true := by
          rcases HTO.out with ⟨h, _⟩ | ⟨_, h⟩
          · omega
          · exact h
        rw [htrue, HTM.out] at hag'
        simp at hag'
        obtain ⟨d, hd⟩ : ∃ d, d = now1 - at_ := ⟨_, rfl⟩
        have hdi : (now1 : Int) - (at_ : Int) = (d : Int) := by omega
        have hdlt : ¬ N ≤ d := by have := hag' (by omega); omega
        have HW5 : WS w w4 g 1 1 [en] (fun _ => False) := by
          have := HW4.out
          simpa only [List.map_cons, List.map_nil, mark_no hag] using this
        have HW6 := Lib.hid HW5
        clear hag hag' hmap hmap' S4 HW5 hd
        have hk1 : ((k : Int) == 0) = false := by simp; omega
        go_wp2_with fail
        go_roundw
        case rel => exact ⟨k + 1, now1, at_, en, rfl, rfl, by go_num, by omega, by omega, by omega, by omega, hx, HTM.out, .inr ⟨by omega, htrue⟩, HW6.out⟩
        case measure => simp [intOf]; omega
      · have hmap' : outs.map (fun o => (o.seq, o.x)) = [(1, bX)] := by
          have := hmap.trans (due_one_yes now1 N 1 en hag)
          rw [hx] at this; exact this
        obtain ⟨o1, rfl, ho1, ho2⟩ := map_one hmap'
        have HW5 : WS w w4 g 1 1 [{ en with told := true, tm := now1 }] (fun _ => False) := by
          have := HW4.out
          simpa only [List.map_cons, List.map_nil, mark_yes hag] using this
        have HW6 := Lib.hid HW5
        obtain ⟨b', o', rfl, hb', hc0, hc1⟩ := S4.cells 0 (by simp)
        have hx9 := (S4.xs o1 (by simp)).1.row
        have e1 : [o1][0] = o1 := rfl
        rw [Nat.zero_mul, Nat.add_zero, e1, ho1] at hc0
        rw [Nat.zero_mul, Nat.add_zero, e1, ho2] at hc1
        rw [ho2] at hx9
        have hcv := conv_row bX o1.A _ 1 o1.c w4 hx9 rfl
        rw [sX] at hcv
        simp only [show bX.length = 1 from rfl] at hc1
        have hag' := hag
        unfold again at hag'
        clear hag hmap hmap' S4 HW5 hx9 e1
        rcases Nat.eq_zero_or_pos k with hk0 | hk0
        · subst hk0
          clear hag'
          go_wp2_with fail
          go_roundw
          case rel => exact ⟨1, now1, now1, { en with told := true, tm := now1 }, rfl, rfl, rfl, by omega, by omega, by omega, by omega, hx, rfl, .inr ⟨by omega, rfl⟩, HW6.out⟩
          case measure => simp [intOf]; omega
        · have htrue : en.told = true := by
            rcases HTO.out with ⟨h, _⟩ | ⟨_, h⟩
            · omega
            · exact h
          rw [htrue, HTM.out] at hag'
          simp at hag'
          obtain ⟨d, hd⟩ : ∃ d, d = now1 - at_ := ⟨_, rfl⟩
          have hdi : (now1 : Int) - (at_ : Int) = (d : Int) := by omega
          have hdlt : N ≤ d := by omega
          clear hd hag'
          have hk1 : ((k : Int) == 0) = false := by simp; omega
          go_wp2_with fail
          go_roundw
          case rel => exact ⟨k + 1, now1, now1, { en with told := true, tm := now1 }, rfl, rfl, by go_num, by omega, by omega, by omega, by omega, hx, rfl, .inr ⟨by omega, rfl⟩, HW6.out⟩
          case measure => simp [intOf]; omega
    · have hn3 : now ≤ 1205 := by omega
      obtain ⟨now2, hn2⟩ : ∃ now2, now2 = now + 1000 := ⟨_, rfl⟩
      have hn2i : (now : Int) + 1000 = (now2 : Int) := by omega
      have hn2b : now2 ≤ 2205 := by omega
      clear hn2 hto htm hnow hat
      have fin : ∀ w', WS w w' g 1 1 [en] (fun _ => False) → Calls Try.prog 18 #[.pointer (some ⟨g, 0, none⟩), .int .u32 1] w' fun e w'' => e = .returned (.int .i64 1) ∧ WS w w'' g 1 1 [] (fun _ => False) :=
        fun w' h => (ws_ack h 1 (by decide)).mono fun e w'' ⟨he, hW, _⟩ => ⟨he, hW⟩
      have FIN := Lib.hid fin
      clear fin
      rcases (by omega : (¬ k < n) ∨ (k < n ∧ k = 40)) with hge | ⟨hlt, h40⟩
      · go_wp2_with fail
        refine (FIN.out _ HW.out).mono ?_
        rintro e w5 ⟨rfl, W5⟩
        have HW5 := Lib.hid W5
        clear W5
        go_wp2_with fail
        refine (ws_due HW5.out now2 0 (by omega) (by decide) (fun e h => by simp at h)).mono ?_
        rintro e w6 ⟨outs, Ar, cr, Fr, rfl, W6, S6, hmap, k6, -, hs6⟩
        obtain rfl := map_nil' hmap
        have HB6 := Lib.hid W6.below
        clear W6 S6 k6 hmap
        go_wp2_with fail
        go_ret
        exact ⟨rfl, HB6.out⟩
      · subst h40
        go_wp2_with fail
        refine (FIN.out _ HW.out).mono ?_
        rintro e w5 ⟨rfl, W5⟩
        have HW5 := Lib.hid W5
        clear W5
        go_wp2_with fail
        refine (ws_due HW5.out now2 0 (by omega) (by decide) (fun e h => by simp at h)).mono ?_
        rintro e w6 ⟨outs, Ar, cr, Fr, rfl, W6, S6, hmap, k6, -, hs6⟩
        obtain rfl := map_nil' hmap
        have HB6 := Lib.hid W6.below
        clear W6 S6 k6 hmap
        go_wp2_with fail
        go_ret
        exact ⟨rfl, HB6.out⟩
end Go.Proofs.Ytlpjglcnbjbpcaa.Win
