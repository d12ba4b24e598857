/- The walks of the window: New, Len, first, Push. -/
import Derived.Test.YtlpjglcnbjbpcaaWinDefs
namespace Go.Proofs.Ytlpjglcnbjbpcaa.Win
open Go Go.RowKit Mem

theorem new_any (size : Int) (w : World) (hs : size ≤ 9223372036854775807) :
    Calls Try.prog 15 #[.int .i64 size] w fun e w' => e = .returned (.pointer (some ⟨w.heap.size, 0, none⟩)) ∧ Win w' w.heap.size (max size 1).toNat 0 [] none 0 none ∧ Below w.heap.size w w' := by
  obtain ⟨m, hm, hmx⟩ : ∃ m : Nat, (max size 1).toNat = m ∧ (if size < 1 then (1 : Int) else size) = (m : Int) := by
    refine ⟨_, rfl, ?_⟩
    split <;> omega
  have h1 : 1 ≤ m := by omega
  have h2 : m ≤ 9223372036854775807 := by omega
  rw [hm]
  clear hm
  go_enter Try.func15, Try.ntmps15
  go_wp2
  go_ret
  exact ⟨rfl, ⟨Blk.new w _ _, Sl.nil _ _ _, by simp, by simp, Nat.le_refl _, by omega, Nat.zero_le _, h1, h2⟩, (Below.refl _ _).alloc (Nat.le_refl _) _⟩

theorem len_any (w : World) {g size last c : Nat} {es : List Ent} {A : Option Addr} {Fl : Option Nat} (h : Win w g size last es A c Fl) :
    Calls Try.prog 23 #[.pointer (some ⟨g, 0, none⟩)] w fun e w' => e = .returned (.int .i64 (es.length : Int)) ∧ w = w' := by
  have hc := h.blk.cell 1
  simp only [List.getElem?_toArray, List.getElem?_cons_succ, List.getElem?_cons_zero] at hc
  clear h
  go_enter Try.func23, Try.ntmps23
  go_wp2
  go_ret
  exact ⟨rfl, rfl⟩

theorem first_any (w : World) {g size last c : Nat} {es : List Ent} {A : Option Addr} {Fl : Option Nat} (h : Win w g size last es A c Fl) :
    Calls Try.prog 26 #[.pointer (some ⟨g, 0, none⟩)] w fun e w' => e = .returned (.int .i64 ((last - es.length + 1 : Nat) : Int)) ∧ ∃ n, w' = w.drewN n := by
  have hc1 := h.blk.cell 1
  have hc2 := h.blk.cell 2
  simp only [List.getElem?_toArray, List.getElem?_cons_succ, List.getElem?_cons_zero] at hc1 hc2
  have hle := h.le
  have hhi := h.hi
  have HR := Lib.hid (show ((last - es.length + 1 : Nat) : Int) = (last : Int) - es.length + 1 by omega)
  clear h
  go_enter Try.func26, Try.ntmps26
  go_wp2
  go_quiet (fail)
  go_wp2
  go_ret
  exact ⟨by rw [HR.out]; rfl, _, rfl⟩

theorem push_full (w : World) {g size last c : Nat} {es : List Ent} {A : Option Addr} {Fl : Option Nat} (h : Win w g size last es A c Fl) (v : Value) (hf : size ≤ es.length ∨ last = 4294967295) :
    Calls Try.prog 16 #[.pointer (some ⟨g, 0, none⟩), v] w fun e w' => e = .returned (.tuple #[.int .u32 0, .int .i64 5]) ∧ ∃ n, w' = w.drewN n := by
  have hc0 := h.blk.cell 0
  have hc1 := h.blk.cell 1
  have hc2 := h.blk.cell 2
  simp only [List.getElem?_toArray, List.getElem?_cons_succ, List.getElem?_cons_zero] at hc0 hc1 hc2
  by_cases hfull : size ≤ es.length
  · have hd : decide (size ≤ es.length) = true := by simp; omega
    clear h hf hfull
    go_enter Try.func16, Try.ntmps16
    go_wp2
    go_quiet (fail)
    go_wp2
    go_ret2
    exact ⟨rfl, _, rfl⟩
  · have hd : decide (size ≤ es.length) = false := by simp; omega
    have hl : last = 4294967295 := by rcases hf with h | h; omega; exact h
    have he : ((last : Int) == 4294967295) = true := by rw [hl]; rfl
    clear h hf hfull hl
    go_enter Try.func16, Try.ntmps16
    go_wp2
    go_quiet (fail)
    go_wp2
    go_ret2
    exact ⟨rfl, _, rfl⟩

theorem push_close {w w1 w2 w4 : World} {g size last c c2 c4 : Nat} {es : List Ent} {A A2 A4 : Option Addr} {Fl F2 F4 : Option Nat} {l : List Nat} {T : Array Value} (H : Win w g size last es A c Fl)
    (o1 : Only (fun k => k = g) w w1) (B1 : Blk w1 g 68 #[.int .i64 (size : Int), .slice A es.length c, .int .u32 ((last : Int) + 1)])
    (hown2 : Own8 w2 A2 c2 F2 l) (hbel2 : Below w1.drew.heap.size w1.drew w2) (hfr2 : ∀ b, F2 = some b → w1.drew.heap.size ≤ b)
    (hs4 : Sl w4 71 3 A4 (es.length + 1) c4 (thCells es ++ #[Value.slice A2 l.length c2, .bool false, .int .u64 0].toList) F4)
    (ho4 : Only (fun k => Fl = some k) (w2.alloc (.cells T 71)) w4) (hF4 : F4 = Fl ∨ F4 = some (w2.alloc (.cells T 71)).heap.size) (h1 : es.length < size) (h2 : last < 4294967295) :
    Win (w4.setCell ⟨g, 1, none⟩ (.slice A4 (es.length + 1) c4)) g size (last + 1) (es ++ [⟨A2, c2, F2, l, false, 0⟩]) A4 c4 F4 ∧ Only (WFoot g Fl es) w (w4.setCell ⟨g, 1, none⟩ (.slice A4 (es.length + 1) c4)) ∧
      ∀ k, WFoot g F4 (es ++ [⟨A2, c2, F2, l, false, 0⟩]) k → WFoot g Fl es k ∨ w.heap.size ≤ k := by
  have hglt := H.blk.lt
  have hs1 := o1.size
  have hs2 : w1.heap.size ≤ w2.heap.size := hbel2.size
  have hs24 : w2.heap.size + 1 ≤ w4.heap.size := by have := ho4.size; simpa using this
  have hne : Fl ≠ some g := fun e => blk_sl_ne H.blk H.sl (by decide) e
  have hFlt : ∀ b, Fl = some b → b < w.heap.size := fun b hb => H.sl.lt hb
  have O2 : Only (fun k => k = g ∨ Fl = some k) w2 (w4.setCell ⟨g, 1, none⟩ (.slice A4 (es.length + 1) c4)) :=
    (((Only.refl (fun k => k = g ∨ Fl = some k) w2).alloc _).trans ho4 (fun b hb _ => .inr hb)).set1 (.inl rfl) 1 _
  have O12 : Only (fun k => k = g ∨ Fl = some k) w1 w2 := ⟨hbel2.os, hbel2.tape, hbel2.output, hbel2.size, fun k hk _ => hbel2.block k hk⟩
  have O : Only (fun k => k = g ∨ Fl = some k) w (w4.setCell ⟨g, 1, none⟩ (.slice A4 (es.length + 1) c4)) := ((o1.mono (fun b hb _ => .inl hb)).trans' O12).trans' O2
  have Bw2 : Blk w2 g 68 #[.int .i64 (size : Int), .slice A es.length c, .int .u32 ((last : Int) + 1)] := (show Blk w1.drew g _ _ from B1).below hbel2 (by show g < w1.heap.size; omega)
  have Bw4 : Blk w4 g 68 #[.int .i64 (size : Int), .slice A es.length c, .int .u32 ((last : Int) + 1)] := (Bw2.alloc _).only ho4 hne
  have hF4g : ∀ b, F4 = some b → b ≠ g := by
    intro b hb e
    subst e
    rcases hF4 with h | h
    · exact hne (h ▸ hb)
    · rw [h] at hb; simp at hb; omega
  refine ⟨⟨?_, ?_, ?_, ?_, ?_, by omega, ?_, H.s1, H.s2⟩, O.mono (fun b hb _ => hb.elim .inl (fun h => .inr (.inl h))), ?_⟩
  · have := Bw4.set_ 1 (.slice A4 (es.length + 1) c4)
    simpa using this
  · have e : thCells (es ++ [⟨A2, c2, F2, l, false, 0⟩]) = thCells es ++ #[Value.slice A2 l.length c2, .bool false, .int .u64 0].toList := by simp [thCells, Ent.cells]
    rw [e, List.length_append]
    exact hs4.keep fun b hb => Below.heap_setCell w4 _ _ b (hF4g b hb)
  · intro e he
    rcases List.mem_append.1 he with he | he
    · refine ⟨(H.xs e he).1.only O fun b hb hn => ?_, (H.xs e he).2⟩
      rcases hn with rfl | hn
      · exact blk_sl_ne H.blk (H.xs e he).1 (by decide) hb
      · exact sl_ne H.sl (H.xs e he).1 (by decide) hn hb
    · simp only [List.mem_singleton] at he
      subst he
      refine ⟨hown2.1.only O2 fun b hb hn => ?_, hown2.2⟩
      have hb1 : w1.heap.size ≤ b := hfr2 b hb
      rcases hn with rfl | hn
      · omega
      · have := hFlt b hn; omega
  · intro e he
    rcases List.mem_append.1 he with he | he
    · exact H.tms e he
    · simp only [List.mem_singleton] at he
      subst he; exact (by decide : 0 < 18446744073709551616)
  · rw [List.length_append]; have := H.le; simp; omega
  · rw [List.length_append]; simp; omega
  · intro k hk
    rcases hk with rfl | hk | ⟨e, he, hk⟩
    · exact .inl (.inl rfl)
    · rcases hF4 with h | h
      · exact .inl (.inr (.inl (h ▸ hk)))
      · rw [h] at hk; simp at hk; right; omega
    · rcases List.mem_append.1 he with he | he
      · exact .inl (.inr (.inr ⟨e, he, hk⟩))
      · simp only [List.mem_singleton] at he
        subst he
        right
        have : w1.heap.size ≤ k := hfr2 k hk
        omega

set_option maxHeartbeats 1600000 in
theorem push_room (w : World) {g size last c : Nat} {es : List Ent} {A : Option Addr} {Fl : Option Nat} (h : Win w g size last es A c Fl) (Ax : Option Addr) (n cx : Nat) (l : List Nat) (hr : Row w w.heap.size 1 Ax n (byts l)) (hl : l.length = n) (hb : ∀ u ∈ l, u < 256) (hA : Ax = none → cx = 0) (hm : n ≤ 70368744177664) (hxg : 0 < n → ∀ b o, Ax = some ⟨b, o, none⟩ → b ≠ g)
    (h1 : es.length < size) (h2 : last < 4294967295) :
    Calls Try.prog 16 #[.pointer (some ⟨g, 0, none⟩), .slice Ax n cx] w fun e w' => ∃ (en : Ent) (A' : Option Addr) (c' : Nat) (Fl' : Option Nat), e = .returned (.tuple #[.int .u32 ((last + 1 : Nat) : Int), .int .i64 0]) ∧
      en.x = l ∧ en.told = false ∧ en.tm = 0 ∧ Win w' g size (last + 1) (es ++ [en]) A' c' Fl' ∧ Only (WFoot g Fl es) w w' ∧ ∀ k, WFoot g Fl' (es ++ [en]) k → WFoot g Fl es k ∨ w.heap.size ≤ k := by
  obtain ⟨i0, hi, hz0, hz1, hz2⟩ := info_parts inf_th
  have hc0 := h.blk.cell 0
  have hc1 := h.blk.cell 1
  have hc2 := h.blk.cell 2
  have hf1 := h.blk.frozen 1
  have hf2 := h.blk.frozen 2
  have hglt := h.blk.lt
  simp only [List.getElem?_toArray, List.getElem?_cons_succ, List.getElem?_cons_zero] at hc0 hc1 hc2
  have hd : decide (size ≤ es.length) = false := by simp; omega
  have he : ((last : Int) == 4294967295) = false := by simp; omega
  have H := Lib.hid h; have HL := Lib.hid hl
  have hle := h.le
  clear h hl
  go_enter Try.func16, Try.ntmps16
  go_wp2
  go_quiet (fail)
  go_wp2_with fail
  obtain ⟨w1, hw1⟩ : ∃ w1, w1 = (w.drewN nq).setCell ⟨g, 2, none⟩ (.int .u32 ((last : Int) + 1)) := ⟨_, rfl⟩
  have o1 : Only (fun k => k = g) w w1 := by rw [hw1]; exact ((Only.refl (fun k => k = g) w).drewN nq).set1 rfl 2 _
  have B1 : Blk w1 g 68 #[.int .i64 (size : Int), .slice A es.length c, .int .u32 ((last : Int) + 1)] := by rw [hw1]; exact (H.out.blk.drewN nq).set_ 2 _
  have hS : w1.cell? ⟨g, 1, none⟩ = some (.slice A es.length c) := by rw [B1.cell]; rfl
  have hF : w1.frozen? ⟨g, 1, none⟩ = false := B1.frozen 1
  have hr1 : Row w1.drew w.heap.size 1 Ax n (byts l) := by
    rw [hw1]
    exact ⟨hr.1, fun hn => (hr.keepAt fun b o e _ => Below.heap_setCell (w.drewN nq) ⟨g, 2, none⟩ _ b (hxg hn b o e)).2 hn⟩
  rw [← hw1]
  clear hw1 hc0 hc1 hc2 hf1 hf2 hd he hr
  have hs1 := o1.size
  have HB1 := Lib.hid B1; clear B1
  have HO1 := Lib.hid o1; clear o1
  have hsl1 : Sl w1.drew 71 3 A es.length c (thCells es) Fl := H.out.sl.only HO1.out.drew (fun b hb e => blk_sl_ne H.out.blk H.out.sl (by decide) (e ▸ hb))
  have HS1 := Lib.hid hsl1; clear hsl1
  have hg1 : g < w1.heap.size := by omega
  go_region_law
    (first
      | (go_simp; go_at_call 25
         refine (clone_any Ax n cx _ l _ hr1 HL.out hb hA hm (by simp; omega)).mono ?_
         rintro e w2 ⟨A2, c2, F2, rfl, hown2, hbel2, hfr2⟩
         have hs2 : w1.heap.size ≤ w2.heap.size := hbel2.size
         have hS2 : w2.cell? ⟨g, 1, none⟩ = some (.slice A es.length c) := (hbel2.cell (p := ⟨g, 1, none⟩) hg1).trans hS
         have hF2 : w2.frozen? ⟨g, 1, none⟩ = false := (hbel2.frozen (p := ⟨g, 1, none⟩) hg1).trans hF
         have hg2 : g < w2.heap.size := by omega
         have hS2' : ∀ o, (w2.alloc o).cell? ⟨g, 1, none⟩ = some (.slice A es.length c) := fun o => (World.cell?_alloc_lt w2 o ⟨g, 1, none⟩ hg2).trans hS2)
      | (refine step_append_sl _ (by rfl) _ _ _ _ (by rfl) 71 i0 _ 3 40 Try.underlying66 hi hz0 hz1 hz2 rfl A es.length c (thCells es) Fl (by rfl) ((HS1.out.below hbel2 (fun b hb => HS1.out.lt hb)).alloc _) _ 1 _ (by rfl) (src_new w2 (m := 1) (c := 1) #[.slice A2 n c2, .bool false, .int .u64 0] rfl Try.underlying66 rfl (by simp [Value.oneCell'])) (by unfold maxLen; omega) (by omega) ?_
         intro A4 c4 w4 F4 hs4 ho4 hF4
         have hne4 : ¬ (fun k => Fl = some k) g := fun e => blk_sl_ne H.out.blk H.out.sl (by decide) e
         have hS4 : w4.cell? ⟨g, 1, none⟩ = some (.slice A es.length c) := (ho4.cell (p := ⟨g, 1, none⟩) (by simp; omega) hne4).trans ((World.cell?_alloc_lt w2 _ ⟨g, 1, none⟩ (by simp; omega)).trans hS2)
         have hF4' : w4.frozen? ⟨g, 1, none⟩ = false := (ho4.frozen (p := ⟨g, 1, none⟩) (by simp; omega) hne4).trans ((World.frozen?_alloc_old w2 _ ⟨g, 1, none⟩ (by simp; omega)).trans hF2)))
  all_goals
    have HP := push_close H.out HO1.out HB1.out hown2 hbel2 hfr2 (by rw [HL.out]; exact hs4) ho4 hF4 h1 h2
    have hc5 : (w4.setCell ⟨g, 1, none⟩ (.slice A4 (es.length + 1) c4)).cell? ⟨g, 2, none⟩ = some (.int .u32 ((last + 1 : Nat) : Int)) := by rw [HP.1.blk.cell]; rfl
    have HP := Lib.hid HP
    clear hS hF hr1 hS2 hF2 hS2' hS4 hF4' hs4 ho4 hF4 hown2 hbel2 hfr2 hne4
    go_wp2
    go_ret2
    exact ⟨⟨A2, c2, F2, l, false, 0⟩, A4, c4, F4, rfl, rfl, rfl, rfl, HP.out.1, HP.out.2.1, HP.out.2.2⟩
end Go.Proofs.Ytlpjglcnbjbpcaa.Win
