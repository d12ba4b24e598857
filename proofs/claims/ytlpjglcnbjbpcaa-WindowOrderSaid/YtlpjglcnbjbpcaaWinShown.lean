/- The walk of what must be in any case: a small window, a small taker. -/
import Derived.Test.YtlpjglcnbjbpcaaWinSess
namespace Go.Proofs.Ytlpjglcnbjbpcaa.Win
open Go Go.RowKit Mem Conv

theorem newTaker_ex (w : World) :
    Calls Try.prog 12 #[] w fun e w' => ∃ t, e = .returned (.pointer (some ⟨t, 0, none⟩)) ∧ Taker w' t 0 ∧ w.heap.size ≤ t ∧ t < w'.heap.size ∧ Below w.heap.size w w' :=
  (newTaker_any w).mono fun e w' ⟨he, hT, hb⟩ => ⟨_, he, hT, Nat.le_refl _, Blk.lt hT, hb⟩

def bX : List Nat := [120]
theorem sX : strOf bX = ⟨#[120]⟩ := rfl

set_option maxRecDepth 100000 in
set_option maxHeartbeats 3200000 in
theorem shown_any (w : World) :
    Calls Try.prog 11 #[] w fun e w' => e = .returned (.bool true) ∧ Below w.heap.size w w' := by
  have kc := conv_const
  have wc1 : IntKind.i64.wrap 1 = 1 := IntWalk.i64_in _ (by omega)
  go_enter Try.func11, Try.ntmps11
  go_wp2_with fail
  refine (ws_new w w (fun _ => False) 1 (by decide) (Below.refl _ _) (fun _ h => h.elim)).mono ?_
  rintro e w1 ⟨g, rfl, W1, b1⟩
  have hW1 := Lib.hid W1
  have hlt1 := W1.lt.2
  clear W1
  go_wp2_with fail
  refine (newTaker_ex w1).mono ?_
  rintro e w2 ⟨t, rfl, T2, ht1, ht2, b2⟩
  have hs2 := b2.size
  have W2 := hW1.out.more (H' := fun k => k = t) b2 (fun k hk => .inr ⟨by omega, by omega⟩)
  have hW2 := Lib.hid W2; have hT2 := Lib.hid T2
  clear W2 T2 hW1
  go_wp2_with fail
  -- Push "x"
  have b3 : Below w2.heap.size w2 (w2.alloc (.cells #[.int .u8 120] 5 (1, 2))) := (Below.refl _ _).alloc (Nat.le_refl _) _
  refine (ws_push_room (hW2.out.step b3) (some ⟨w2.heap.size, 0, none⟩) 1 1 bX (row_new w2 5 bX (1, 2) _ _ rfl (by simp)) rfl (by decide) (fun h => by cases h) (by omega) (fun _ b o h => by cases h; omega) (by decide) (by decide)).mono ?_
  rintro e w3 ⟨en, rfl, hx, htold, htm, W3, k3⟩
  have T3 := (Taker.kept (H := fun k => k = t) (show Taker _ t 0 from Blk.alloc hT2.out _) k3 rfl)
  have hW3 := Lib.hid W3; have hT3 := Lib.hid T3
  clear W3 T3 hW2 hT2 k3 b3
  go_wp2_with fail
  -- Push nil: full
  refine (ws_push_full hW3.out _ (.inl (by simp))).mono ?_
  rintro e w4 ⟨rfl, W4, b4⟩
  have T4 := Blk.below hT3.out b4 (Blk.lt hT3.out)
  have hW4 := Lib.hid W4; have hT4 := Lib.hid T4
  clear W4 T4 hW3 hT3 b4
  go_wp2_with fail
  -- Due(5, 3)
  have hxl : ∀ e ∈ [en], e.x.length ≤ 70368744177664 := by intro e he; simp at he; rw [he, hx]; decide
  refine (ws_due hW4.out 5 3 (by decide) (by decide) hxl).mono ?_
  rintro e w5 ⟨outs, Ar, cr, Fr, rfl, W5, S5, hmap, k5, -, hs5⟩
  have ha5 : again 5 3 en = true := by unfold again; rw [htold]; rfl
  have hmap' : outs.map (fun o => (o.seq, o.x)) = [(1, bX)] := by
    have := hmap.trans (due_one_yes 5 3 1 en ha5)
    rw [hx] at this; exact this
  obtain ⟨o1, rfl, ho1, ho2⟩ := map_one hmap'
  have T5 := Taker.kept (H := fun k => k = t) hT4.out k5 rfl
  simp only [List.nil_append, List.map_cons, List.map_nil, mark_yes ha5] at W5
  have hW5 := Lib.hid W5; have hT5 := Lib.hid T5; have hS5 := Lib.hid S5
  clear W5 T5 S5 hW4 hT4 k5 hxl hmap hmap' ha5
  go_wp2_with fail
  -- Due(7, 3)
  have hxl : ∀ e ∈ [(⟨en.A, en.c, en.F, en.x, true, 5⟩ : Ent)], e.x.length ≤ 70368744177664 := by intro e he; simp at he; rw [he, hx]; decide
  have ha7 : again 7 3 ⟨en.A, en.c, en.F, en.x, true, 5⟩ = false := rfl
  have ha8 : again 8 3 ⟨en.A, en.c, en.F, en.x, true, 5⟩ = true := rfl
  refine (ws_due hW5.out 7 3 (by decide) (by decide) hxl).mono ?_
  rintro e w6 ⟨outs, Ar2, cr2, Fr2, rfl, W6, -, hmap, k6, -, hs6⟩
  have hmap' : outs.map (fun o => (o.seq, o.x)) = [] := hmap.trans (due_one_no 7 3 1 _ ha7)
  obtain rfl := map_nil' hmap'
  have T6 := Taker.kept hT5.out k6 (.inl rfl)
  have S6 := Sents.kept hS5.out k6 (fun b hb => .inr hb)
  simp only [List.map_cons, List.map_nil, mark_no ha7] at W6
  have hW6 := Lib.hid (W6.weaken (fun k hk => Or.inl hk)); have hT6 := Lib.hid T6; have hS6 := Lib.hid S6
  clear W6 T6 S6 hW5 hT5 hS5 k6 hmap hmap' ha7
  go_wp2_with fail
  -- Due(8, 3)
  refine (ws_due hW6.out 8 3 (by decide) (by decide) hxl).mono ?_
  rintro e w7 ⟨outs, Ar3, cr3, Fr3, rfl, W7, -, hmap, k7, -, hs7⟩
  have hmap' : outs.map (fun o => (o.seq, o.x)) = [(1, en.x)] := hmap.trans (due_one_yes 8 3 1 _ ha8)
  obtain ⟨o2, rfl, -, -⟩ := map_one hmap'
  have T7 := Taker.kept hT6.out k7 (.inl rfl)
  have S7 := Sents.kept hS6.out k7 (fun b hb => .inr hb)
  simp only [List.map_cons, List.map_nil, mark_yes ha8] at W7
  have hW7 := Lib.hid (W7.weaken (fun k hk => Or.inl hk)); have hT7 := Lib.hid T7; have hS7 := Lib.hid S7
  clear W7 T7 S7 hW6 hT6 hS6 k7 hmap hmap' ha8 hxl
  go_wp2_with fail
  -- Ack(9)
  refine (ws_ack hW7.out 9 (by decide)).mono ?_
  rintro e w8 ⟨he, W8, k8⟩
  have he' : e = .returned (.int .i64 1) := he
  subst he'
  have T8 := Taker.kept hT7.out k8 (.inl rfl)
  have S8 := Sents.kept hS7.out k8 (fun b hb => .inr hb)
  have W8' : WS w w8 g 1 1 [] _ := W8
  have hW8 := Lib.hid W8'; have hT8 := Lib.hid T8; have hS8 := Lib.hid S8
  clear W8 W8' T8 S8 hW7 hT7 hS7 k8 he
  go_wp2_with fail
  -- Push nil
  refine (ws_push_room hW8.out none 0 0 [] Row.none_ rfl (by decide) (fun _ => rfl) (by omega) (fun _ b o h => by cases h) (by decide) (by decide)).mono ?_
  rintro e w9 ⟨en', rfl, -, -, -, W9, k9⟩
  have T9 := Taker.kept hT8.out k9 (.inl rfl)
  have S9 := Sents.kept hS8.out k9 (fun b hb => .inr hb)
  have hW9 := Lib.hid W9; have hT9 := Lib.hid T9
  obtain ⟨b, o, rfl, hb, hc0, hc1⟩ := S9.cells 0 (by simp)
  have hx9 := (S9.xs o1 (by simp)).1.row
  have e1 : [o1][0] = o1 := rfl
  rw [Nat.zero_mul, Nat.add_zero, e1, ho1] at hc0
  rw [Nat.zero_mul, Nat.add_zero, e1, ho2] at hc1
  rw [ho2] at hx9
  have hcv := conv_row bX o1.A _ 1 o1.c w9 hx9 rfl
  rw [sX] at hcv
  simp only [show bX.length = 1 from rfl] at hc1
  clear W9 T9 S9 hW8 hT8 hS8 k9 hx9 e1
  go_wp2_with fail
  refine (take_no w9 t 0 2 hT9.out (by decide) (by decide)).mono ?_
  rintro e w10 ⟨rfl, rfl⟩
  go_wp2_with fail
  refine (take_yes w9 t 0 hT9.out (by decide)).mono ?_
  rintro e w11 ⟨rfl, T11, o11⟩
  have hT11 := Lib.hid T11; have hO11 := Lib.hid o11
  clear T11 o11 hc0 hc1 hcv
  go_wp2_with fail
  refine (take_no w11 t 1 1 hT11.out (by decide) (by decide)).mono ?_
  rintro e w12 ⟨rfl, rfl⟩
  go_wp2_with fail
  refine (take_yes w11 t 1 hT11.out (by decide)).mono ?_
  rintro e w13 ⟨rfl, T13, o13⟩
  have hT13 := Lib.hid T13; have hO13 := Lib.hid o13
  clear T13 o13
  go_wp2_with fail
  refine (last_any w13 t 2 hT13.out).mono ?_
  rintro e w14 ⟨rfl, rfl⟩
  go_wp2_with fail
  go_ret
  have h1 := b1.size
  exact ⟨rfl, hW9.out.below.trans ((hO11.out.trans' hO13.out).below hW9.out.below.size (fun k hk => by omega))⟩
end Go.Proofs.Ytlpjglcnbjbpcaa.Win
