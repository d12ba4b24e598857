/- A window in memory: its block, the row of its things, and each thing's own bytes. -/
import Derived.Test.YtlpjglcnbjbpcaaTaker
import Derived.Deep.QuietTactic
import Derived.BigQuiet
import Derived.Deep.RegionHeld3
import Derived.Deep.RegionLaw
import Derived.Lib.LazyBuf
namespace Go.Proofs.Ytlpjglcnbjbpcaa.Win
open Go Go.RowKit Mem

/-- A thing: its bytes' slice, when it was told. -/
structure Ent where
  A : Option Addr
  c : Nat
  F : Option Nat
  x : List Nat
  told : Bool
  tm : Nat
def Ent.cells (e : Ent) : List Value := [.slice e.A e.x.length e.c, .bool e.told, .int .u64 (e.tm : Int)]
def thCells (es : List Ent) : List Value := es.flatMap Ent.cells
/-- Bytes of the call's own. -/
def Own8 (w : World) (A : Option Addr) (c : Nat) (F : Option Nat) (x : List Nat) : Prop := Sl w 5 1 A x.length c (byts x) F ∧ ∀ u ∈ x, u < 256
structure Win (w : World) (g : Nat) (size last : Nat) (es : List Ent) (A : Option Addr) (c : Nat) (Fl : Option Nat) : Prop where
  blk : Blk w g 68 #[.int .i64 (size : Int), .slice A es.length c, .int .u32 (last : Int)]
  sl : Sl w 71 3 A es.length c (thCells es) Fl
  xs : ∀ e ∈ es, Own8 w e.A e.c e.F e.x
  tms : ∀ e ∈ es, e.tm < 18446744073709551616
  le : es.length ≤ last
  hi : last ≤ 4294967295
  fits : es.length ≤ size
  s1 : 1 ≤ size
  s2 : size ≤ 9223372036854775807
/-- The blocks of a window. -/
def WFoot (g : Nat) (Fl : Option Nat) (es : List Ent) (k : Nat) : Prop := k = g ∨ Fl = some k ∨ ∃ e ∈ es, e.F = some k

theorem thCells_length (es : List Ent) : (thCells es).length = es.length * 3 := by
  induction es with
  | nil => rfl
  | cons e es ih => simp only [thCells, List.flatMap_cons, List.length_append, List.length_cons] at ih ⊢; rw [ih]; simp [Ent.cells]; omega
theorem thCells_at (es : List Ent) (i j : Nat) (hi : i < es.length) (hj : j < 3) : (thCells es)[i * 3 + j]? = (es[i]).cells[j]? := by
  induction es generalizing i with
  | nil => simp at hi
  | cons e es ih =>
    cases i with
    | zero =>
      simp only [thCells, List.flatMap_cons, Nat.zero_mul, Nat.zero_add, List.getElem_cons_zero]
      rw [List.getElem?_append_left (by simp [Ent.cells]; omega)]
    | succ i =>
      simp only [thCells, List.flatMap_cons, List.getElem_cons_succ]
      rw [List.getElem?_append_right (by simp [Ent.cells]; omega)]
      have : (i + 1) * 3 + j - e.cells.length = i * 3 + j := by simp [Ent.cells]; omega
      rw [this]
      exact ih i (by simpa using hi)
theorem thCells_one (es : List Ent) : ∀ u ∈ thCells es, u.oneCell' = true := by
  intro u hu
  simp only [thCells, List.mem_flatMap] at hu
  obtain ⟨e, _, hu⟩ := hu
  simp only [Ent.cells, List.mem_cons, List.not_mem_nil, or_false] at hu
  rcases hu with rfl | rfl | rfl <;> rfl

section
variable {w w' : World} {E E' : TypeId} {s1 s2 n1 n2 c1 c2 : Nat} {A1 A2 : Option Addr} {xs1 xs2 : List Value} {F1 F2 : Option Nat}
/-- Rows of unlike types are apart. -/
theorem sl_ne (h1 : Sl w E s1 A1 n1 c1 xs1 F1) (h2 : Sl w E' s2 A2 n2 c2 xs2 F2) (hne : E ≠ E') {b : Nat} (hb1 : F1 = some b) (hb2 : F2 = some b) : False := by
  rcases h1.2.2.2 with ⟨_, _, h⟩ | ⟨b1, _, cs1, _, hF1, hh1, _⟩
  · rw [h] at hb1; cases hb1
  · rcases h2.2.2.2 with ⟨_, _, h⟩ | ⟨b2, _, cs2, _, hF2, hh2, _⟩
    · rw [h] at hb2; cases hb2
    · rw [hF1] at hb1; rw [hF2] at hb2
      cases hb1; cases hb2
      rw [hh1] at hh2
      injection hh2 with hh2
      injection hh2 with _ ht
      exact hne ht
theorem blk_sl_ne {g : Nat} {cs : Array Value} (h1 : Blk w g E cs) (h2 : Sl w E' s2 A2 n2 c2 xs2 F2) (hne : E ≠ E') (hb : F2 = some g) : False := by
  rcases h2.2.2.2 with ⟨_, _, h⟩ | ⟨b2, _, cs2, _, hF2, hh2, _⟩
  · rw [h] at hb; cases hb
  · rw [hF2] at hb; cases hb
    unfold Blk at h1
    rw [h1] at hh2
    injection hh2 with hh2
    injection hh2 with _ ht
    exact hne ht
end

theorem Win.keep {w w' : World} {g size last : Nat} {es : List Ent} {A : Option Addr} {c : Nat} {Fl : Option Nat} (h : Win w g size last es A c Fl) (hk : ∀ k, WFoot g Fl es k → w'.heap[k]? = w.heap[k]?) : Win w' g size last es A c Fl :=
  { h with
    blk := (hk g (.inl rfl)).trans h.blk
    sl := h.sl.keep fun b hb => hk b (.inr (.inl hb))
    xs := fun e he => ⟨(h.xs e he).1.keep fun b hb => hk b (.inr (.inr ⟨e, he, hb⟩)), (h.xs e he).2⟩ }
theorem Win.lt {w : World} {g size last : Nat} {es : List Ent} {A : Option Addr} {c : Nat} {Fl : Option Nat} (h : Win w g size last es A c Fl) {k : Nat} (hk : WFoot g Fl es k) : k < w.heap.size := by
  rcases hk with rfl | hk | ⟨e, he, hk⟩
  · exact h.blk.lt
  · exact h.sl.lt hk
  · exact (h.xs e he).1.lt hk
theorem Win.only {w w' : World} {g size last : Nat} {es : List Ent} {A : Option Addr} {c : Nat} {Fl : Option Nat} {G : Nat → Prop} (h : Win w g size last es A c Fl) (ho : Only G w w') (hn : ∀ k, WFoot g Fl es k → ¬ G k) : Win w' g size last es A c Fl :=
  h.keep fun k hk => ho.block k (h.lt hk) (hn k hk)

theorem inf_u8 : (Try.prog.info? 5).map (fun i => (i.zero, i.size, i.bytes)) = some (some (.int .u8 0), 1, 1) := by kernel_rfl
theorem inf_th : (Try.prog.info? 71).map (fun i => (i.zero, i.size, i.bytes)) = some (some (.agg #[.slice none 0 0, .bool false, .int .u64 0]), 3, 40) := by kernel_rfl
theorem inf_sent : (Try.prog.info? 40).map (fun i => (i.zero, i.size, i.bytes)) = some (some (.agg #[.int .u32 0, .slice none 0 0]), 2, 32) := by kernel_rfl

/-! ### slices.Clone -/
theorem clone_any (A : Option Addr) (n c B : Nat) (l : List Nat) (w : World) (hr : Row w B 1 A n (byts l)) (hl : l.length = n) (hb : ∀ u ∈ l, u < 256) (hA : A = none → c = 0) (hm : n ≤ 70368744177664) (hB : B ≤ w.heap.size) :
    Calls Try.prog 25 #[.slice A n c] w fun e w' => ∃ A' c' F', e = .returned (.slice A' n c') ∧ Own8 w' A' c' F' l ∧ Below w.heap.size w w' ∧ ∀ b, F' = some b → w.heap.size ≤ b := by
  obtain ⟨i0, hi, hz0, hz1, hz2⟩ := info_parts inf_u8
  have hnil := fun (W : World) => Lib.run_eql_slice_nil (P := Try.prog) W 31 5 A n c 0 0 Try.underlying31
  have HL := Lib.hid hl
  cases A with
  | none =>
    have hn0 : n = 0 := by
      rcases Nat.eq_zero_or_pos n with h | h
      · exact h
      · obtain ⟨_, _, h, _⟩ := hr.2 h; cases h
    subst hn0
    have hl0 : l = [] := List.eq_nil_of_length_eq_zero hl
    obtain rfl := hA rfl
    clear hr hl hA
    go_enter Try.func25, Try.ntmps25
    go_wp2
    go_ret
    subst hl0
    exact ⟨none, 0, none, rfl, ⟨Sl.nil w _ _, by simp⟩, Below.refl _ _, fun _ h => by cases h⟩
  | some ad =>
    clear hl hA
    go_enter Try.func25, Try.ntmps25
    have hsrc := src_row (tx := 31) (c := c) Try.underlying31 (hr.alloc hB (.cells #[] 5)) (byts_one l) (fun h => by cases h)
    go_wp2_with (first
      | (at_builtin
         refine wpList_append_sl _ rfl (.tmp 5) (.tmp 6) 31 31 rfl 5 i0 (.int .u8 0) 1 1 Try.underlying31 hi hz0 hz1 hz2 rfl (some ⟨w.heap.size, 0, none⟩) 0 0 [] (some w.heap.size) rfl (sl_lit0 w _ _) (.slice (some ad) n c) n (byts l) rfl hsrc (by unfold maxLen; omega) (by omega) ?_
         intro A' c' w' F' hs ho hF
         simp only [Nat.zero_add, List.nil_append] at hs))
    go_ret
    have hb1 : Below w.heap.size w w' := (((Only.refl (fun _ => False) w).alloc _).trans ho (fun b hb hlt => by cases hb; omega)).below (Nat.le_refl _) (fun b hb => hb.elim)
    refine ⟨A', c', F', by simp, ⟨by rw [HL.out]; exact hs, hb⟩, hb1, fun b hb' => ?_⟩
    rcases hF with h | h
    · rw [h] at hb'; cases hb'; exact Nat.le_refl _
    · rw [h] at hb'; simp at hb'; omega
end Go.Proofs.Ytlpjglcnbjbpcaa.Win
