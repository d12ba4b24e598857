/- The walk of Window.Ack. -/
import Derived.Test.YtlpjglcnbjbpcaaWinPush
namespace Go.Proofs.Ytlpjglcnbjbpcaa.Win
open Go Go.RowKit Mem

/-- How many go. -/
def ackN (last n seq : Nat) : Nat := min (seq - (last - n)) n
/-- Where the rest begins. -/
def cutA (A : Option Addr) (c k : Nat) : Option Addr := if c = k then A else A.map (·.add (k * 3))

theorem thCells_drop (es : List Ent) (k : Nat) : (thCells es).drop (k * 3) = thCells (es.drop k) := by
  induction k generalizing es with
  | zero => simp
  | succ k ih =>
    cases es with
    | nil => simp [thCells]
    | cons e es =>
      rw [List.drop_succ_cons, ← ih es]
      have : (k + 1) * 3 = e.cells.length + k * 3 := by simp [Ent.cells]; omega
      rw [this]
      simp only [thCells, List.flatMap_cons]
      rw [List.drop_length_add_append]

theorem ack_close {w w1 : World} {g size last c k : Nat} {es : List Ent} {A : Option Addr} {Fl : Option Nat} (h : Win w g size last es A c Fl) (hk : k ≤ es.length)
    (h1 : Sl w1 71 3 (cutA A c k) (es.length - k) (c - k) (thCells (es.drop k)) Fl) (ho : Only (fun b => Fl = some b) w w1) :
    Win (w1.setCell ⟨g, 1, none⟩ (.slice (cutA A c k) (es.length - k) (c - k))) g size last (es.drop k) (cutA A c k) (c - k) Fl ∧
      Only (fun b => b = g ∨ Fl = some b) w (w1.setCell ⟨g, 1, none⟩ (.slice (cutA A c k) (es.length - k) (c - k))) := by
  have hne : Fl ≠ some g := fun e => blk_sl_ne h.blk h.sl (by decide) e
  have O : Only (fun b => b = g ∨ Fl = some b) w (w1.setCell ⟨g, 1, none⟩ (.slice (cutA A c k) (es.length - k) (c - k))) := (ho.mono fun b hb _ => .inr hb).set1 (.inl rfl) 1 _
  have B1 : Blk w1 g _ _ := h.blk.only ho hne
  refine ⟨⟨?_, ?_, ?_, ?_, ?_, h.hi, ?_, h.s1, h.s2⟩, O⟩
  · have := B1.set_ 1 (.slice (cutA A c k) (es.length - k) (c - k))
    rw [List.length_drop]
    simpa using this
  · rw [List.length_drop]
    exact h1.keep fun b hb => Below.heap_setCell w1 _ _ b (fun e => hne (by have e' : b = g := e; rw [← e']; exact hb))
  · intro e he
    have he := List.mem_of_mem_drop he
    refine ⟨(h.xs e he).1.only O fun b hb hn => ?_, (h.xs e he).2⟩
    rcases hn with rfl | hn
    · exact blk_sl_ne h.blk (h.xs e he).1 (by decide) hb
    · exact sl_ne h.sl (h.xs e he).1 (by decide) hn hb
  · exact fun e he => h.tms e (List.mem_of_mem_drop he)
  · rw [List.length_drop]; have := h.le; omega
  · rw [List.length_drop]; have := h.fits; omega

theorem ack_clear {w : World} {g size last c k : Nat} {es : List Ent} {A : Option Addr} {Fl : Option Nat} (h : Win w g size last es A c Fl) (hk : k ≤ es.length) (ty : TypeId) :
    ∃ w1, (Builtin.clear_ #[66] ty #[.slice A k c]).run Try.prog w = .ok (.tuple #[]) w1 ∧ Sl w1 71 3 (cutA A c k) (es.length - k) (c - k) (thCells (es.drop k)) Fl ∧ Only (fun b => Fl = some b) w w1 := by
  obtain ⟨i0, hi, hz0, hz1, hz2⟩ := info_parts inf_th
  rw [← thCells_drop]
  rcases Nat.eq_zero_or_pos k with rfl | hpos
  · exact ⟨w, run_clear_none _ _ ty Try.underlying66 A c w, h.sl.cut (Nat.zero_le _), Only.refl _ _⟩
  · obtain ⟨b, o, hA, hF, hb, hcell, hf⟩ := h.sl.form (by omega)
    subst hA
    refine ⟨_, run_clear_row _ _ i0 _ ty Try.underlying66 hi hz0 (by simp [Value.cells, Value.oneCell']) b o k c hpos w (fun j hj => ?_) hf, ?_, (only_setCells w b o _).mono fun j hj _ => by rw [hF, hj]⟩
    · have hj' : j < (thCells es).length := by rw [thCells_length]; simp [Value.cells] at hj; omega
      rw [hcell j _ (List.getElem?_eq_getElem hj')]; rfl
    · have := h.sl.clear_cut hk (Builtin.zeroCells (Value.agg #[.slice none 0 0, .bool false, .int .u64 0]).cells k).toList (by simp [Builtin.zeroCells, Value.cells])
      unfold cutA
      simp only [Option.map_some, addr_add]
      exact this

set_option maxHeartbeats 1600000 in
theorem ack_any (w : World) {g size last c : Nat} {es : List Ent} {A : Option Addr} {Fl : Option Nat} (h : Win w g size last es A c Fl) (seq : Nat) (hs : seq ≤ 4294967295) :
    Calls Try.prog 18 #[.pointer (some ⟨g, 0, none⟩), .int .u32 (seq : Int)] w fun e w' => ∃ (A' : Option Addr) (c' : Nat), e = .returned (.int .i64 (ackN last es.length seq : Int)) ∧
      Win w' g size last (es.drop (ackN last es.length seq)) A' c' Fl ∧ Only (fun b => b = g ∨ Fl = some b) w w' := by
  obtain ⟨i0, hi, hz0, hz1, hz2⟩ := info_parts inf_th
  have hc1 := h.blk.cell 1
  simp only [List.getElem?_toArray, List.getElem?_cons_succ, List.getElem?_cons_zero] at hc1
  have hle := h.le
  have hhi := h.hi
  obtain ⟨k, hk⟩ : ∃ k, k = ackN last es.length seq := ⟨_, rfl⟩
  rw [← hk]
  have hkn : k ≤ es.length := by rw [hk]; exact Nat.min_le_right _ _
  obtain ⟨f0, hf0⟩ : ∃ f0, f0 = last - es.length + 1 := ⟨_, rfl⟩
  obtain ⟨d1, hd1⟩ : ∃ d1 : Int, (seq : Int) - (f0 : Int) = d1 := ⟨_, rfl⟩
  obtain ⟨d2, hd2⟩ : ∃ d2 : Int, d1 + 1 = d2 := ⟨_, rfl⟩
  obtain ⟨m, hm⟩ : ∃ m : Int, (if (es.length : Int) < d2 then (es.length : Int) else d2) = m := ⟨_, rfl⟩
  have hmx : (if (0 : Int) < m then m else 0) = (k : Int) := by
    rw [hk]; unfold ackN
    rw [← hm, ← hd2, ← hd1, hf0]
    split <;> split <;> omega
  have hw1 : IntKind.i64.wrap d1 = d1 := IntWalk.i64_in _ (by omega)
  have hw2 : IntKind.i64.wrap d2 = d2 := IntWalk.i64_in _ (by omega)
  have hfir : ∀ q, Calls Try.prog 26 #[.pointer (some ⟨g, 0, none⟩)] (w.drewN q) fun e w' => e = .returned (.int .i64 (f0 : Int)) ∧ ∃ n, w' = (w.drewN q).drewN n := fun q => by
    have := first_any (w.drewN q) (h.keep (w' := w.drewN q) (fun _ _ => rfl))
    rw [← hf0] at this
    exact this
  have HFI := Lib.hid hfir
  have H := Lib.hid h; have HK := Lib.hid hk; have HF0 := Lib.hid hf0
  clear h hk hf0 hfir
  go_enter Try.func18, Try.ntmps18
  go_wp2
  go_quiet ((go_at_call 26; exact Calls.quiet_of (HFI.out _)))
  have hkc : k ≤ c := Nat.le_trans hkn H.out.sl.2.1
  obtain ⟨w1, hclr, hsl1, ho1⟩ := ack_clear (k := k) (H.out.keep (w' := w.drewN nq) (fun _ _ => rfl)) hkn 0
  have hcl := ack_close (H.out.keep (w' := w.drewN nq) (fun _ _ => rfl)) hkn hsl1 ho1
  have hb1 : Blk w1 g 68 _ := (show Blk (w.drewN nq) g _ _ from H.out.blk).only ho1 (fun e => blk_sl_ne H.out.blk H.out.sl (by decide) e)
  have hc2 : w1.cell? ⟨g, 1, none⟩ = some (.slice A es.length c) := by rw [hb1.cell]; rfl
  have hf2 := hb1.frozen 1
  have hslf : (Instr.slice 66 (.slice A es.length c) (some (.int .i64 (k : Int))) none none).run Try.prog w1 = .ok (.slice (cutA A c k) (es.length - k) (c - k)) w1 := by
    have := run_slice_from (P := Try.prog) 66 71 i0 Try.underlying66 hi A es.length c k .i64 hkn w1
    rw [hz1] at this
    exact this
  have HCL := Lib.hid hcl
  have HR := Lib.hid hclr
  clear hcl hb1 hsl1 ho1 hclr hd1 hd2 hm hmx hw1 hw2
  go_wp2_with (refine wpList_clear _ w1 rfl (.tmp 24) 66 rfl _ rfl HR.out ?_)
  go_ret
  exact ⟨cutA A c k, c - k, rfl, HCL.out.1, ((Only.refl _ w).drewN nq).trans' HCL.out.2⟩
end Go.Proofs.Ytlpjglcnbjbpcaa.Win
