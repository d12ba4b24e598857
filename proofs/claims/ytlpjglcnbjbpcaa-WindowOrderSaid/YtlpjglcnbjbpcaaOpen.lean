/- Arguments that are rows of rows: slices of bytes, of truths, of structs, in a slice. -/
import Derived.Test.YtlpjglcnbjbpcaaRow
import Derived.Deep.Slices
import Derived.Deep.Fields
namespace Go.Proofs.Ytlpjglcnbjbpcaa.Row
open Go Go.ChangeShapes Go.WideShapes Go.RowKit Go.Deep Mem

/-- A value that is a slice of these bytes. -/
def BytesAt (W : World) (v : Value) (l : List Nat) : Prop :=
  ∃ A n c, v = .slice A n c ∧ Row W W.heap.size 1 A n (byts l) ∧ l.length = n ∧ n ≤ c ∧ c ≤ maxLen ∧ (A = none → c = 0) ∧ ∀ u ∈ l, u < 256

section
variable {H : Type} {enc : TypeId × Value → H} {P : Program} {W : World}
theorem trod_bytes {t e : TypeId} (ht : P.underlying t = some (.slice e)) (he : P.underlying e = some (.int .u8)) (hce : P.cellsOf e = 1)
    {fuel : Nat} {v : Value} {y : DataW H × List MemPlace} (h : DataW.trod enc P W 0 (fun _ => true) true fuel t [v] = some y) : ∃ l, BytesAt W v l := by
  rcases open_ints ht he hce h with ⟨hcs, _⟩ | ⟨x, n, c, zs, hcs, _, hl, hm, hz, _, hcell, hwz⟩
  · simp at hcs
    subst hcs
    exact ⟨[], none, 0, 0, rfl, Row.none_, rfl, Nat.le_refl _, by unfold maxLen; omega, fun _ => rfl, by simp⟩
  · simp at hcs
    subst hcs
    have hzl : zs.length = c := by simpa using hz
    have hb : ∀ z ∈ zs, 0 ≤ z ∧ z ≤ 255 := fun z hz => u8_in (hwz z hz)
    refine ⟨(zs.take n).map Int.toNat, some x, n, c, rfl, ⟨by simp [byts]; omega, fun hn => ?_⟩, by simp; omega, hl, hm, (fun h => by cases h), ?_⟩
    · obtain ⟨b, o, s⟩ := x
      have h0 := hcell 0 (by omega)
      have hs : s = none := by simpa [Addr.add] using World.cell?_spot h0
      subst hs
      refine ⟨b, o, rfl, World.block_lt_of_cell? W _ (by simpa [addr_add] using h0), fun j u hu => ?_⟩
      have hj : j < n := by
        rcases Nat.lt_or_ge j n with h | h
        · exact h
        · rw [List.getElem?_eq_none (by simp [byts]; omega)] at hu; cases hu
      have hjz : j < zs.length := by omega
      have := hcell j hjz
      rw [addr_add] at this
      rw [this, ← hu]
      simp [byts, List.getElem?_take, hj, hjz]
      have := (hb zs[j] (List.getElem_mem hjz)).1
      omega
    · intro u hu
      simp only [List.mem_map] at hu
      obtain ⟨z, hz, rfl⟩ := hu
      have := hb z (List.mem_of_mem_take hz)
      omega

/-- From 'each has one' to a list. -/
theorem choose_list {α : Type} {n : Nat} {p : Nat → α → Prop} (h : ∀ i, i < n → ∃ x, p i x) : ∃ l : List α, l.length = n ∧ ∀ i (hi : i < l.length), p i l[i] := by
  induction n with
  | zero => exact ⟨[], rfl, fun i hi => by simp at hi⟩
  | succ n ih =>
    obtain ⟨l, hl, hp⟩ := ih (fun i hi => h i (by omega))
    obtain ⟨x, hx⟩ := h n (by omega)
    refine ⟨l ++ [x], by simp [hl], fun i hi => ?_⟩
    rw [List.getElem_append]
    split
    · exact hp i _
    · have : i = n := by simp at hi; omega
      subst this
      simpa using hx

/-- A slice of one-cell things: each as its own reading says. -/
theorem open_ones {t e : TypeId} (ht : P.underlying t = some (.slice e)) (hc : P.cellsOf e = 1) {base : Nat} {r : Reach} {v : Value} {d : DataW H} {p : List MemPlace}
    (hv : Value.okWide P W r base t v) (h : DataW.Trod enc P W 0 (fun _ => true) true t v d p) {α : Type} {q : Value → α → Prop}
    (hq : ∀ n u y, DataW.trod enc P W 0 (fun _ => true) true n e [u] = some y → ∃ x, q u x) :
    ∃ (A : Option Addr) (n c : Nat) (l : List α), v = .slice A n c ∧ l.length = n ∧ (n ≤ c ∧ c ≤ maxLen ∧ (A = none → c = 0)) ∧ (0 < n → ∃ b o, A = some ⟨b, o, none⟩ ∧ b < W.heap.size ∧ ∀ i (hi : i < l.length), ∃ u, W.cell? ⟨b, o + i, none⟩ = some u ∧ q u l[i]) := by
  obtain ⟨A, n, c, rfl⟩ := okWide_slice ht hv
  obtain ⟨fuel, hf⟩ := h
  rcases open_slice1 ht hc hf with ⟨hcs, _⟩ | ⟨a, len, cap, m, k, V, D, Pl, hcs, _, hl, hm, hmm, _, hx⟩
  · simp [Value.cells] at hcs
    obtain ⟨rfl, rfl, rfl⟩ := hcs
    exact ⟨none, 0, 0, [], rfl, rfl, ⟨Nat.le_refl _, by unfold maxLen; omega, fun _ => rfl⟩, fun h => by omega⟩
  · simp [Value.cells] at hcs
    obtain ⟨rfl, rfl, rfl⟩ := hcs
    simp only [if_true] at hmm
    subst hmm
    obtain ⟨l, hll, hp⟩ := choose_list (n := n) (p := fun i x => W.cell? (a.add i) = some (V i) ∧ q (V i) x) (fun i hi => by
      obtain ⟨h1, h2⟩ := hx i (by omega)
      obtain ⟨x, hx'⟩ := hq _ _ _ h2
      exact ⟨x, h1, hx'⟩)
    refine ⟨some a, n, _, l, rfl, hll, ⟨hl, hm, fun h => by cases h⟩, fun hn => ?_⟩
    obtain ⟨b, o, s⟩ := a
    have h0 := (hp 0 (by omega)).1
    have hs : s = none := by simpa [Addr.add] using World.cell?_spot h0
    subst hs
    refine ⟨b, o, rfl, World.block_lt_of_cell? W _ (by simpa [addr_add] using h0), fun i hi => ?_⟩
    obtain ⟨h1, h2⟩ := hp i hi
    rw [addr_add] at h1
    exact ⟨_, h1, h2⟩
theorem open_rows {t e q : TypeId} (ht : P.underlying t = some (.slice e)) (he : P.underlying e = some (.slice q)) (hq : P.underlying q = some (.int .u8)) (hce : P.cellsOf e = 1) (hcq : P.cellsOf q = 1)
    {base : Nat} {r : Reach} {v : Value} {d : DataW H} {p : List MemPlace} (hv : Value.okWide P W r base t v) (h : DataW.Trod enc P W 0 (fun _ => true) true t v d p) :
    ∃ (A : Option Addr) (n c : Nat) (l : List (List Nat)), v = .slice A n c ∧ l.length = n ∧ (n ≤ c ∧ c ≤ maxLen ∧ (A = none → c = 0)) ∧ (0 < n → ∃ b o, A = some ⟨b, o, none⟩ ∧ b < W.heap.size ∧ ∀ i (hi : i < l.length), ∃ u, W.cell? ⟨b, o + i, none⟩ = some u ∧ BytesAt W u l[i]) :=
  open_ones ht hce hv h fun _ _ _ h => trod_bytes he hq hcq h
theorem open_bits {t e : TypeId} (ht : P.underlying t = some (.slice e)) (he : P.underlying e = some .bool) (hce : P.cellsOf e = 1)
    {base : Nat} {r : Reach} {v : Value} {d : DataW H} {p : List MemPlace} (hv : Value.okWide P W r base t v) (h : DataW.Trod enc P W 0 (fun _ => true) true t v d p) :
    ∃ (A : Option Addr) (n c : Nat) (l : List Bool), v = .slice A n c ∧ l.length = n ∧ (n ≤ c ∧ c ≤ maxLen ∧ (A = none → c = 0)) ∧ (0 < n → ∃ b o, A = some ⟨b, o, none⟩ ∧ b < W.heap.size ∧ ∀ i (hi : i < l.length), ∃ u, W.cell? ⟨b, o + i, none⟩ = some u ∧ u = .bool l[i]) :=
  open_ones ht hce hv h fun _ _ _ h => by
    obtain ⟨b, hb, _⟩ := DataW.trod_bool he h
    simp at hb
    exact ⟨b, hb⟩

/-- A slice of structs of one-cell fields: each field by its own reading. -/
theorem open_structs {t e : TypeId} {fs : Array Field} (ht : P.underlying t = some (.slice e)) (hs : P.underlying e = some (.struct fs)) (hone : ∀ (i : Nat) (f : Field), fs[i]? = some f → f.offset = i ∧ P.cellsOf f.type = 1)
    (hC : P.cellsOf e = fs.size) (hpos : 0 < fs.size) {base : Nat} {r : Reach} {v : Value} {d : DataW H} {p : List MemPlace}
    (hv : Value.okWide P W r base t v) (h : DataW.Trod enc P W 0 (fun _ => true) true t v d p) :
    ∃ (A : Option Addr) (n c : Nat), v = .slice A n c ∧ (n ≤ c ∧ c ≤ maxLen ∧ (A = none → c = 0)) ∧ (0 < n → ∃ b o, A = some ⟨b, o, none⟩ ∧ b < W.heap.size ∧ ∀ i, i < n → ∀ j f, fs[j]? = some f →
      ∃ u k y, W.cell? ⟨b, o + i * fs.size + j, none⟩ = some u ∧ DataW.trod enc P W 0 (fun _ => true) true k f.type [u] = some y) := by
  obtain ⟨A, n, c, rfl⟩ := okWide_slice ht hv
  obtain ⟨fuel, hf⟩ := h
  rcases open_slice ht hf with ⟨hcs, _⟩ | ⟨a, len, cap, m, k, D, Pl, hcs, _, hl, hm, hmm, _, hx⟩
  · simp [Value.cells] at hcs
    obtain ⟨rfl, rfl, rfl⟩ := hcs
    exact ⟨none, 0, 0, rfl, ⟨Nat.le_refl _, by unfold maxLen; omega, fun _ => rfl⟩, fun h => by omega⟩
  · simp [Value.cells] at hcs
    obtain ⟨rfl, rfl, rfl⟩ := hcs
    simp only [if_true] at hmm
    subst hmm
    refine ⟨some a, n, _, rfl, ⟨hl, hm, fun h => by cases h⟩, fun hn => ?_⟩
    have each : ∀ i, i < n → ∀ j f, fs[j]? = some f → ∃ u k' y, W.cell? (a.add (i * fs.size + j)) = some u ∧ DataW.trod enc P W 0 (fun _ => true) true k' f.type [u] = some y := by
      intro i hi j f hj
      obtain ⟨cs', h1, h2⟩ := hx i (by omega)
      rw [hC] at h1
      obtain ⟨_, hlen, hcell⟩ := World.cells?_some h1
      obtain ⟨xs, k', hk, _, _, hxl, hff⟩ := DataW.trod_struct hs h2
      have g := hff j f hj
      have hlt : j < fs.size := (Array.getElem?_eq_some_iff.1 hj).1
      obtain ⟨ho, hc1⟩ := hone j f hj
      rw [ho, hc1, take1_drop cs' j undef (by omega), List.getElem?_eq_getElem (by omega)] at g
      have hcj := hcell j hlt
      rw [add_add, List.getElem?_eq_getElem (by omega)] at hcj
      refine ⟨_, k', xs[j], hcj, ?_⟩
      rw [← g]; simp [List.getD, List.getElem?_eq_getElem (show j < cs'.length by omega)]
    obtain ⟨b, o, s⟩ := a
    obtain ⟨f0, hf0⟩ : ∃ f, fs[0]? = some f := ⟨_, Array.getElem?_eq_getElem hpos⟩
    obtain ⟨_, _, _, h0, _⟩ := each 0 hn 0 f0 hf0
    have hsp : s = none := by simpa [Addr.add] using World.cell?_spot h0
    subst hsp
    refine ⟨b, o, rfl, World.block_lt_of_cell? W ⟨b, o, none⟩ (by simpa [addr_add] using h0), fun i hi j f hj => ?_⟩
    obtain ⟨u, k', y, h1, h2⟩ := each i hi j f hj
    rw [addr_add] at h1
    exact ⟨u, k', y, by rw [Nat.add_assoc]; exact h1, h2⟩
end
end Go.Proofs.Ytlpjglcnbjbpcaa.Row
