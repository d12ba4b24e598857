/- The walks of the taker: NewTaker, Take, Last. -/
import Derived.Test.YtlpjglcnbjbpcaaProg
import Derived.Test.YtlpjglcnbjbpcaaFoot
import Derived.WalkKit
import Derived.Lib.Hide
import Derived.WalkLawsBesides
import Derived.WalkSpells
namespace Go.Proofs.Ytlpjglcnbjbpcaa.Win
open Go Go.RowKit Mem

/-- A taker that took up to a number. -/
def Taker (w : World) (g : Nat) (last : Nat) : Prop := Blk w g 65 #[.int .u32 (last : Int)]

theorem newTaker_any (w : World) :
    Calls Try.prog 12 #[] w fun e w' => e = .returned (.pointer (some ⟨w.heap.size, 0, none⟩)) ∧ Taker w' w.heap.size 0 ∧ Below w.heap.size w w' := by
  go_enter Try.func12, Try.ntmps12
  go_wp2
  go_ret
  exact ⟨rfl, Blk.new w _ _, (Below.refl _ _).alloc (Nat.le_refl _) _⟩

theorem take_yes (w : World) (g last : Nat) (h : Taker w g last) (hl : last < 4294967295) :
    Calls Try.prog 13 #[.pointer (some ⟨g, 0, none⟩), .int .u32 ((last + 1 : Nat) : Int)] w fun e w' => e = .returned (.bool true) ∧ Taker w' g (last + 1) ∧ Only (fun k => k = g) w w' := by
  have hc := h.cell 0
  have hf := h.frozen 0
  simp only [List.getElem?_toArray, List.getElem?_cons_zero] at hc
  have hne : (((last + 1 : Nat) : Int) == 0) = false := by simp; omega
  obtain ⟨s, hs⟩ : ∃ s : Nat, s = last + 1 := ⟨_, rfl⟩
  rw [← hs] at hne ⊢
  have h1 : (s : Int) - 1 = (last : Int) := by omega
  have h2 : ((s : Int) != 0) = true := by simp; omega
  have hu : s ≤ 4294967295 := by omega
  have H := Lib.hid h
  have HS := Lib.hid hs
  clear h hs
  go_enter Try.func13, Try.ntmps13
  go_wp2
  go_ret
  exact ⟨rfl, H.out.set_ 0 _, only_set1 w g 0 _⟩

theorem take_no (w : World) (g last seq : Nat) (h : Taker w g last) (hs : seq ≠ last + 1) (hu : seq ≤ 4294967295) :
    Calls Try.prog 13 #[.pointer (some ⟨g, 0, none⟩), .int .u32 (seq : Int)] w fun e w' => e = .returned (.bool false) ∧ w = w' := by
  by_cases h0 : seq = 0
  · subst h0
    clear hs h
    go_enter Try.func13, Try.ntmps13
    go_wp2
    go_ret
    exact ⟨rfl, rfl⟩
  · have hc := h.cell 0
    simp only [List.getElem?_toArray, List.getElem?_cons_zero] at hc
    have h2 : ((seq : Int) != 0) = true := by simp; omega
    obtain ⟨p, hp⟩ : ∃ p : Nat, seq = p + 1 := ⟨seq - 1, by omega⟩
    have h1 : (seq : Int) - 1 = (p : Int) := by omega
    have h3 : ((p : Int) == (last : Int)) = false := by simp; omega
    clear hp hs h
    go_enter Try.func13, Try.ntmps13
    go_wp2
    go_ret
    exact ⟨rfl, rfl⟩

theorem last_any (w : World) (g last : Nat) (h : Taker w g last) :
    Calls Try.prog 14 #[.pointer (some ⟨g, 0, none⟩)] w fun e w' => e = .returned (.int .u32 (last : Int)) ∧ w = w' := by
  have hc := h.cell 0
  simp only [List.getElem?_toArray, List.getElem?_cons_zero] at hc
  clear h
  go_enter Try.func14, Try.ntmps14
  go_wp2
  go_ret
  exact ⟨rfl, rfl⟩
end Go.Proofs.Ytlpjglcnbjbpcaa.Win
