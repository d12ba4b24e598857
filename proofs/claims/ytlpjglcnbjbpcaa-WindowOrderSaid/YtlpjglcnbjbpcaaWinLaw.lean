/- What Due tells, where all are told. -/
import Derived.Test.YtlpjglcnbjbpcaaWinShown
import Derived.Test.YtlpjglcnbjbpcaaMask
import Derived.Lib.MinMax
namespace Go.Proofs.Ytlpjglcnbjbpcaa.Win
open Go Go.RowKit Mem Conv

theorem dueTo_all (now wait f : Nat) (es : List Ent) (h : ∀ e ∈ es, again now wait e = true) : ∀ i, i ≤ es.length → (dueTo now wait f es i).length = i ∧ ∀ j (_ : j < i) (hl : j < es.length), (dueTo now wait f es i)[j]? = some (f + j, es[j].x)
  | 0, _ => ⟨rfl, fun j hj => by omega⟩
  | i + 1, hi => by
    obtain ⟨h1, h2⟩ := dueTo_all now wait f es h i (by omega)
    rw [dueTo_yes (by omega) (h _ (List.getElem_mem (by omega)))]
    refine ⟨by simp [h1], fun j hj hl => ?_⟩
    by_cases hji : j < i
    · rw [List.getElem?_append_left (by omega)]
      exact h2 j hji hl
    · have : j = i := by omega
      subst this
      rw [List.getElem?_append_right (by omega), h1]
      simp
theorem outs_at {outs : List Out} {d : List (Nat × List Nat)} (h : outs.map (fun o => (o.seq, o.x)) = d) {j s : Nat} {x : List Nat} (hj : d[j]? = some (s, x)) : ∃ hl : j < outs.length, outs[j].seq = s ∧ outs[j].x = x := by
  rw [← h, List.getElem?_map] at hj
  cases ho : outs[j]? with
  | none => rw [ho] at hj; cases hj
  | some o =>
    rw [ho] at hj
    obtain ⟨hl, he⟩ := List.getElem?_eq_some_iff.1 ho
    refine ⟨hl, ?_⟩
    simp only [Option.map_some, Option.some.injEq, Prod.mk.injEq] at hj
    rw [he]; exact hj
theorem outs_len {outs : List Out} {d : List (Nat × List Nat)} (h : outs.map (fun o => (o.seq, o.x)) = d) : outs.length = d.length := by rw [← h]; simp
/-- A byte each: its place. -/
def Filled (es : List Ent) (k : Nat) : Prop := es.length = k ∧ ∀ j (h : j < es.length), es[j].x = [j] ∧ es[j].told = false
theorem Filled.nil : Filled [] 0 := ⟨rfl, fun j h => by simp at h⟩
theorem Filled.push {es : List Ent} {k : Nat} (h : Filled es k) (e : Ent) (hx : e.x = [k]) (ht : e.told = false) : Filled (es ++ [e]) (k + 1) := by
  refine ⟨by simp [h.1], fun j hj => ?_⟩
  rw [List.getElem_append]
  split
  · exact h.2 j _
  · have : j = k := by have := h.1; simp at hj; omega
    subst this
    simp [hx, ht]
theorem ackN_done (S d a : Nat) (hd : d ≤ S) : ackN S (S - d) a = max d (min a S) - d := by unfold ackN; omega
end Go.Proofs.Ytlpjglcnbjbpcaa.Win
