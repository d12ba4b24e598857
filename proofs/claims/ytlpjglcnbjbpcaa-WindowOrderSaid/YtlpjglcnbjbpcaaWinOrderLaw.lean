/- What Due tells rises, and lies between what was acknowledged and what was pushed. -/
import Derived.Test.YtlpjglcnbjbpcaaWinSteps
namespace Go.Proofs.Ytlpjglcnbjbpcaa.Win
open Go Go.RowKit Mem Conv Row

theorem dueTo_mem (now wait f : Nat) (es : List Ent) : ∀ i, ∀ p ∈ dueTo now wait f es i, f ≤ p.1 ∧ p.1 < f + i
  | 0 => by simp [dueTo]
  | i + 1 => by
    have ih := dueTo_mem now wait f es i
    intro p hp
    simp only [dueTo] at hp
    have lift : p ∈ dueTo now wait f es i → f ≤ p.1 ∧ p.1 < f + (i + 1) := fun h => by have := ih p h; omega
    split at hp
    · split at hp
      · rw [List.mem_append] at hp
        rcases hp with hp | hp
        · exact lift hp
        · simp at hp; rw [hp]; exact ⟨by show f ≤ f + i; omega, by show f + i < f + (i + 1); omega⟩
      · exact lift hp
    · exact lift hp
theorem dueTo_rises (now wait f : Nat) (es : List Ent) : ∀ i, (dueTo now wait f es i).Pairwise (fun p q => p.1 < q.1)
  | 0 => by simp [dueTo]
  | i + 1 => by
    have ih := dueTo_rises now wait f es i
    simp only [dueTo]
    split
    · split
      · rw [List.pairwise_append]
        exact ⟨ih, by simp, fun p hp q hq => by simp at hq; rw [hq]; exact (dueTo_mem now wait f es i p hp).2⟩
      · exact ih
    · exact ih
theorem outs_order {outs : List Out} {now wait f : Nat} {es : List Ent} (h : outs.map (fun o => (o.seq, o.x)) = dueTo now wait f es es.length) :
    (∀ j (hj : j < outs.length), f ≤ outs[j].seq ∧ outs[j].seq < f + es.length) ∧ ∀ j (hj : j + 1 < outs.length), outs[j].seq < outs[j + 1].seq := by
  have at_ : ∀ j (hj : j < outs.length), (dueTo now wait f es es.length)[j]? = some (outs[j].seq, outs[j].x) := fun j hj => by
    rw [← h, List.getElem?_map, List.getElem?_eq_getElem hj]; rfl
  refine ⟨fun j hj => dueTo_mem now wait f es es.length _ (List.mem_of_getElem? (at_ j hj)), fun j hj => ?_⟩
  have hp := List.pairwise_iff_getElem.1 (dueTo_rises now wait f es es.length)
  obtain ⟨h1, e1⟩ := List.getElem?_eq_some_iff.1 (at_ j (by omega))
  obtain ⟨h2, e2⟩ := List.getElem?_eq_some_iff.1 (at_ (j + 1) hj)
  have := hp j (j + 1) h1 h2 (by omega)
  rw [e1, e2] at this
  exact this
/-- Each thing is short, and was told no later than now. -/
def Good (es : List Ent) (now : Nat) : Prop := ∀ e ∈ es, e.x.length ≤ 20 ∧ (e.told = true → e.tm ≤ now)
theorem Good.mono {es : List Ent} {a b : Nat} (h : Good es a) (hab : a ≤ b) : Good es b := fun e he => ⟨(h e he).1, fun t => Nat.le_trans ((h e he).2 t) hab⟩
theorem Good.drop {es : List Ent} {a : Nat} (h : Good es a) (k : Nat) : Good (es.drop k) a := fun e he => h e (List.mem_of_mem_drop he)
theorem Good.push {es : List Ent} {a : Nat} (h : Good es a) (e : Ent) (hx : e.x.length ≤ 20) (ht : e.told = false) : Good (es ++ [e]) a := fun e' he => by
  rw [List.mem_append] at he
  rcases he with he | he
  · exact h e' he
  · simp at he; subst he; exact ⟨hx, fun t => by rw [ht] at t; cases t⟩
theorem Good.marked {es : List Ent} {now : Nat} (h : Good es now) (wait : Nat) : Good (es.map (mark now wait)) now := fun e he => by
  obtain ⟨e', he', rfl⟩ := List.mem_map.1 he
  unfold mark
  split
  · exact ⟨(h e' he').1, fun _ => Nat.le_refl _⟩
  · exact h e' he'
theorem Good.again {es : List Ent} {now : Nat} (h : Good es now) : ∀ e ∈ es, again now 0 e = true := fun e he => by
  unfold Win.again
  cases ht : e.told
  · rfl
  · have := (h e he).2 ht
    simp; omega
theorem and3 (n : Nat) : ∃ b : Nat, b ≤ 3 ∧ bits .and .u64 (n : Int) 3 = (b : Int) := by
  refine ⟨(BitVec.ofInt 64 (n : Int) &&& BitVec.ofInt 64 3).toNat, ?_, ?_⟩
  · rw [BitVec.toNat_and]
    exact Nat.le_trans Nat.and_le_right (by decide)
  · have hle : (BitVec.ofInt 64 (n : Int) &&& BitVec.ofInt 64 3).toNat ≤ 3 := by
      rw [BitVec.toNat_and]
      exact Nat.le_trans Nat.and_le_right (by decide)
    show IntKind.u64.wrap ((BitVec.ofInt 64 (n : Int) &&& BitVec.ofInt 64 3).toNat : Int) = _
    generalize (BitVec.ofInt 64 (n : Int) &&& BitVec.ofInt 64 3).toNat = q at *
    exact IntWalk.u64_in _ (by omega)
theorem WS.drewN {w0 w : World} {g size last : Nat} {es : List Ent} {H : Nat → Prop} (h : WS w0 w g size last es H) (n : Nat) : WS w0 (w.drewN n) g size last es H := h.step (below_drewN (Below.refl _ _) n)
theorem WS.drew {w0 w : World} {g size last : Nat} {es : List Ent} {H : Nat → Prop} (h : WS w0 w g size last es H) : WS w0 w.drew g size last es H := h.drewN 1
end Go.Proofs.Ytlpjglcnbjbpcaa.Win
