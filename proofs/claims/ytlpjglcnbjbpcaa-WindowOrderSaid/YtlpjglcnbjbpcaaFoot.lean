/- Footprints: what a step may have turned; a slice that the call owns, wherever in its block it begins. -/
import Derived.Test.YtlpjglcnbjbpcaaMem
import Derived.Deep.AppendSrc
import Derived.Deep.MidRow
import Derived.Laws.Slices
namespace Go.Proofs.Ytlpjglcnbjbpcaa.Mem
open Go Go.RowKit

/-! ### What may have turned -/
/-- Of the old blocks only those of F may have turned; the streams are as they were. -/
structure Only (F : Nat → Prop) (w w' : World) : Prop where
  os : w'.os = w.os
  tape : w'.tape = w.tape
  output : w'.output = w.output
  size : w.heap.size ≤ w'.heap.size
  block : ∀ k, k < w.heap.size → ¬ F k → w'.heap[k]? = w.heap[k]?

section
variable {F G : Nat → Prop} {w w1 w2 w' : World}
theorem Only.refl (F : Nat → Prop) (w : World) : Only F w w := ⟨rfl, rfl, rfl, Nat.le_refl _, fun _ _ _ => rfl⟩
/-- Two steps; the second one may turn what is new, too. -/
theorem Only.trans (h : Only F w w1) (k : Only G w1 w2) (hG : ∀ b, G b → b < w.heap.size → F b) : Only F w w2 :=
  ⟨k.os.trans h.os, k.tape.trans h.tape, k.output.trans h.output, Nat.le_trans h.size k.size, fun b hb hn => (k.block b (Nat.lt_of_lt_of_le hb h.size) (fun g => hn (hG b g hb))).trans (h.block b hb hn)⟩
theorem Only.trans' (h : Only F w w1) (k : Only F w1 w2) : Only F w w2 := h.trans k fun _ g _ => g
theorem Only.mono (h : Only F w w') (hF : ∀ b, F b → b < w.heap.size → G b) : Only G w w' := ⟨h.os, h.tape, h.output, h.size, fun b hb hn => h.block b hb (fun f => hn (hF b f hb))⟩
theorem Only.of_below (h : Below w.heap.size w w') : Only F w w' := ⟨h.os, h.tape, h.output, h.size, fun b hb _ => h.block b hb⟩
theorem Only.below {B : Nat} (h : Only F w w') (hB : B ≤ w.heap.size) (hF : ∀ b, F b → B ≤ b) : Below B w w' := ⟨h.os, h.tape, h.output, h.size, fun b hb => h.block b (by omega) (fun f => by have := hF b f; omega)⟩
theorem Only.of_grown {row : Option Nat} (h : w.grownBy w' row) (hF : ∀ b, row = some b → F b) : Only F w w' :=
  ⟨h.os, h.tape, h.output, h.size, fun b hb hn => h.block b hb (fun e => hn (hF b e.symm))⟩
theorem Only.drewN (h : Only F w w') (n : Nat) : Only F w (w'.drewN n) := ⟨h.os, h.tape, h.output, h.size, h.block⟩
theorem Only.drew (h : Only F w w') : Only F w w'.drew := ⟨h.os, h.tape, h.output, h.size, h.block⟩
theorem Only.alloc (h : Only F w w') (o : Obj) : Only F w (w'.alloc o) :=
  ⟨h.os, h.tape, h.output, Nat.le_trans h.size (by simp), fun b hb hn => (Below.heap_alloc w' o b (Nat.lt_of_lt_of_le hb h.size)).trans (h.block b hb hn)⟩
theorem Only.setCell (h : Only F w w') {p : Addr} (hp : p.block < w.heap.size → F p.block) (u : Value) : Only F w (w'.setCell p u) :=
  ⟨h.os, h.tape, h.output, by simpa [World.setCell] using h.size, fun b hb hn => (Below.heap_setCell w' p u b (by rintro rfl; exact hn (hp hb))).trans (h.block b hb hn)⟩
theorem Only.cell (h : Only F w w') {p : Addr} (hp : p.block < w.heap.size) (hn : ¬ F p.block) : w'.cell? p = w.cell? p := World.cell?_of_block (h.block _ hp hn)
theorem Only.frozen (h : Only F w w') {p : Addr} (hp : p.block < w.heap.size) (hn : ¬ F p.block) : w'.frozen? p = w.frozen? p := World.frozen?_of_block (h.block _ hp hn)
end

theorem only_set1 (w : World) (g o : Nat) (u : Value) : Only (fun k => k = g) w (w.setCell ⟨g, o, none⟩ u) := (Only.refl (fun k => k = g) w).setCell (p := ⟨g, o, none⟩) (fun _ => rfl) u
theorem Only.set1 {F : Nat → Prop} {w w' : World} (h : Only F w w') {g : Nat} (hg : F g) (o : Nat) (u : Value) : Only F w (w'.setCell ⟨g, o, none⟩ u) := h.setCell (p := ⟨g, o, none⟩) (fun _ => hg) u
theorem Blk.only {F : Nat → Prop} {w w' : World} {g : Nat} {t : TypeId} {cs : Array Value} (h : Blk w g t cs) (ho : Only F w w') (hn : ¬ F g) : Blk w' g t cs := (ho.block g h.lt hn).trans h
theorem Row.only {F : Nat → Prop} {w w' : World} {B size n : Nat} {A : Option Addr} {xs : List Value} (h : Row w B size A n xs) (ho : Only F w w') (hB : B ≤ w.heap.size) (hn : ∀ b, b < B → ¬ F b) : Row w' B size A n xs :=
  h.keep fun p hp => ho.cell (by omega) (hn _ hp)

theorem Row.keepAt {w w' : World} {B size n : Nat} {A : Option Addr} {xs : List Value} (h : Row w B size A n xs) (hk : ∀ b o, A = some ⟨b, o, none⟩ → b < B → w'.heap[b]? = w.heap[b]?) : Row w' B size A n xs :=
  ⟨h.1, fun hn => by
    obtain ⟨b, o, e, hb, hc⟩ := h.2 hn
    exact ⟨b, o, e, hb, fun j u hu => (World.cell?_of_block (a := ⟨b, o + j, none⟩) (hk b o e hb)).trans (hc j u hu)⟩⟩

/-! ### Cells set in a row -/
def setA (cs : Array Value) : Nat → List Value → Array Value
  | _, [] => cs
  | o, v :: r => setA (cs.setIfInBounds o v) (o + 1) r
theorem setA_size : ∀ (vs : List Value) (cs : Array Value) (o : Nat), (setA cs o vs).size = cs.size
  | [], _, _ => rfl
  | v :: r, cs, o => by rw [setA, setA_size r]; simp
theorem setA_at : ∀ (vs : List Value) (cs : Array Value) (o p : Nat), o + vs.length ≤ cs.size → (setA cs o vs)[p]? = if o ≤ p ∧ p < o + vs.length then vs[p - o]? else cs[p]?
  | [], cs, o, p, _ => by
    rw [if_neg (by simp)]; rfl
  | v :: r, cs, o, p, h => by
    simp only [List.length_cons] at h
    rw [setA, setA_at r _ (o + 1) p (by simp; omega)]
    by_cases h1 : p = o
    · subst h1
      rw [if_neg (by omega), if_pos (by simp), Array.getElem?_setIfInBounds, if_pos rfl, if_pos (by omega)]
      simp
    · by_cases h2 : o + 1 ≤ p ∧ p < o + 1 + r.length
      · rw [if_pos h2, if_pos (by simp; omega), show p - o = (p - (o + 1)) + 1 by omega, List.getElem?_cons_succ]
      · rw [if_neg h2, if_neg (by simp; omega), Array.getElem?_setIfInBounds, if_neg (by omega)]
theorem heap_setCells_same : ∀ (vs : List Value) (w : World) (b o : Nat) (cs : Array Value) (t : TypeId), w.heap[b]? = some (.cells cs t (0, 0)) → (w.setCells b o vs).heap[b]? = some (.cells (setA cs o vs) t (0, 0))
  | [], _, _, _, _, _, h => h
  | v :: r, w, b, o, cs, t, h => heap_setCells_same r _ b (o + 1) _ t (heap_setCell_same w b o cs t v h)
theorem only_setCells (w : World) (b o : Nat) (vs : List Value) : Only (fun k => k = b) w (w.setCells b o vs) := by
  induction vs generalizing w o with
  | nil => exact Only.refl _ _
  | cons v r ih =>
    exact ((Only.refl (fun k => k = b) w).setCell (p := ⟨b, o, none⟩) (fun _ => rfl) v).trans' (ih (w.setCell ⟨b, o, none⟩ v) (o + 1))

/-! ### A slice of the call's own -/
/-- The slice value '.slice A n c' has the cells xs, 'size' an element; it lies in block F (none: it is nil), with its room behind it. -/
def Sl (w : World) (E : TypeId) (size : Nat) (A : Option Addr) (n c : Nat) (xs : List Value) (F : Option Nat) : Prop :=
  xs.length = n * size ∧ n ≤ c ∧ c ≤ maxLen ∧ ((A = none ∧ c = 0 ∧ F = none) ∨
    ∃ b o cs, A = some ⟨b, o, none⟩ ∧ F = some b ∧ w.heap[b]? = some (.cells cs E (0, 0)) ∧ o + c * size ≤ cs.size ∧ ∀ j u, xs[j]? = some u → cs[o + j]? = some u)

section
variable {w w' : World} {E : TypeId} {size n c : Nat} {A : Option Addr} {xs : List Value} {F : Option Nat}
theorem Sl.nil (w : World) (E : TypeId) (size : Nat) : Sl w E size none 0 0 [] none := ⟨by simp, Nat.le_refl _, by unfold maxLen; omega, .inl ⟨rfl, rfl, rfl⟩⟩
theorem Sl.lt (h : Sl w E size A n c xs F) {b : Nat} (hb : F = some b) : b < w.heap.size := by
  rcases h.2.2.2 with ⟨_, _, h0⟩ | ⟨b', o, cs, _, hF, hh, _⟩
  · rw [h0] at hb; cases hb
  · rw [hF] at hb; cases hb
    exact (Array.getElem?_eq_some_iff.1 hh).1
theorem Sl.keep (h : Sl w E size A n c xs F) (hk : ∀ b, F = some b → w'.heap[b]? = w.heap[b]?) : Sl w' E size A n c xs F := by
  refine ⟨h.1, h.2.1, h.2.2.1, ?_⟩
  rcases h.2.2.2 with h0 | ⟨b, o, cs, hA, hF, hh, hs, hx⟩
  · exact .inl h0
  · exact .inr ⟨b, o, cs, hA, hF, (hk b hF).trans hh, hs, hx⟩
theorem Sl.only {G : Nat → Prop} (h : Sl w E size A n c xs F) (ho : Only G w w') (hn : ∀ b, F = some b → ¬ G b) : Sl w' E size A n c xs F := h.keep fun b hb => ho.block b (h.lt hb) (hn b hb)
theorem Sl.row (h : Sl w E size A n c xs F) : Row w w.heap.size size A n xs := by
  refine ⟨h.1, fun hn => ?_⟩
  rcases h.2.2.2 with ⟨_, h0, _⟩ | ⟨b, o, cs, hA, hF, hh, hs, hx⟩
  · have := h.2.1; omega
  · exact ⟨b, o, hA, h.lt hF, fun j u hu => by rw [cell_of_row _ _ _ cs E _ hh]; exact hx j u hu⟩
/-- Where it lies, if it has an element. -/
theorem Sl.form (h : Sl w E size A n c xs F) (hn : 0 < n) : ∃ b o, A = some ⟨b, o, none⟩ ∧ F = some b ∧ b < w.heap.size ∧ (∀ j u, xs[j]? = some u → w.cell? ⟨b, o + j, none⟩ = some u) ∧ ∀ j, w.frozen? ⟨b, j, none⟩ = false := by
  rcases h.2.2.2 with ⟨_, h0, _⟩ | ⟨b, o, cs, hA, hF, hh, hs, hx⟩
  · have := h.2.1; omega
  · exact ⟨b, o, hA, hF, h.lt hF, fun j u hu => by rw [cell_of_row _ _ _ cs E _ hh]; exact hx j u hu, fun j => frozen_of_row w b j cs E hh⟩
theorem Sl.nil_cap (h : Sl w E size A n c xs F) (hA : A = none) : c = 0 := by
  rcases h.2.2.2 with ⟨_, h0, _⟩ | ⟨b, o, cs, hA', _⟩
  · exact h0
  · rw [hA] at hA'; cases hA'
theorem Sl.of_own {base : Nat} (h : w.ownsRow base E size (.slice A n c) n xs) : ∃ F, Sl w E size A n c xs F ∧ (∀ b, F = some b → base ≤ b) ∧ F = Value.ownBlock (.slice A n c) := by
  rcases h.2 with ⟨h', h0⟩ | ⟨g, cap, cur, hv, hb, hg, hnc, hcm, hcs, ht⟩
  · injection h' with e1 _ e2
    subst e1 e2 h0
    exact ⟨none, ⟨by simpa using h.1, Nat.le_refl _, by unfold maxLen; omega, .inl ⟨rfl, rfl, rfl⟩⟩, (fun _ h => by cases h), rfl⟩
  · injection hv with e1 _ e2
    subst e1 e2
    refine ⟨some g, ⟨h.1, hnc, hcm, .inr ⟨g, 0, cur, rfl, rfl, hg, by omega, fun j u hu => ?_⟩⟩, (fun b hb' => by cases hb'; exact hb), rfl⟩
    rw [← ht] at hu
    rw [List.getElem?_take] at hu
    split at hu
    · simpa using hu
    · cases hu
/-- The first k elements go: s[k:]. -/
theorem Sl.drop (h : Sl w E size A n c xs F) {k : Nat} (hk : k ≤ n) (hkc : k < c) :
    Sl w E size (if c = k then A else A.map (·.add (k * size))) (n - k) (c - k) (xs.drop (k * size)) F := by
  have hc1 := h.2.1
  refine ⟨by rw [List.length_drop, h.1, Nat.sub_mul], by omega, by have := h.2.2.1; omega, ?_⟩
  rw [if_neg (by omega)]
  rcases h.2.2.2 with ⟨_, h0, _⟩ | ⟨b, o, cs, hA, hF, hh, hs, hx⟩
  · omega
  · refine .inr ⟨b, o + k * size, cs, by rw [hA]; simp [addr_add], hF, hh, ?_, fun j u hu => ?_⟩
    · rw [Nat.sub_mul]
      have : k * size ≤ c * size := Nat.mul_le_mul_right _ (by omega)
      omega
    · rw [Nat.add_assoc]
      exact hx _ u (by rw [← hu, List.getElem?_drop])
/-- All elements go, the room too. -/
theorem Sl.drop_all (h : Sl w E size A n c xs F) (hc : c = n) : Sl w E size A (n - n) (c - n) (xs.drop (n * size)) F := by
  subst hc
  have e : xs.drop (c * size) = [] := List.drop_eq_nil_of_le (by rw [h.1]; exact Nat.le_refl _)
  rw [e]
  refine ⟨by simp, by omega, by have := h.2.2.1; omega, ?_⟩
  rcases h.2.2.2 with ⟨hA, h0, hF⟩ | ⟨b, o, cs, hA, hF, hh, hs, hx⟩
  · exact .inl ⟨hA, by omega, hF⟩
  · exact .inr ⟨b, o, cs, hA, hF, hh, by simp; omega, fun j u hu => by simp at hu⟩
theorem Sl.cut (h : Sl w E size A n c xs F) {k : Nat} (hk : k ≤ n) : Sl w E size (if c = k then A else A.map (·.add (k * size))) (n - k) (c - k) (xs.drop (k * size)) F := by
  have hc1 := h.2.1
  rcases Nat.lt_or_ge k c with hlt | hge
  · exact h.drop hk hlt
  · have : c = n := by omega
    have hkn : k = n := by omega
    subst hkn
    rw [if_pos (by omega)]
    exact h.drop_all this
/-- Some cells of its elements are set. -/
theorem Sl.set_ {b o : Nat} (h : Sl w E size (some ⟨b, o, none⟩) n c xs F) (j : Nat) (u : Value) :
    Sl (w.setCell ⟨b, o + j, none⟩ u) E size (some ⟨b, o, none⟩) n c (xs.set j u) F := by
  refine ⟨by rw [List.length_set]; exact h.1, h.2.1, h.2.2.1, ?_⟩
  rcases h.2.2.2 with ⟨h0, _⟩ | ⟨b', o', cs, hA, hF, hh, hs, hx⟩
  · cases h0
  · cases hA
    refine .inr ⟨b, o, cs.setIfInBounds (o + j) u, rfl, hF, heap_setCell_same w b (o + j) cs E u hh, by simpa using hs, fun i v hv => ?_⟩
    rw [Array.getElem?_setIfInBounds]
    rw [List.getElem?_set] at hv
    by_cases he : j = i
    · subst he
      rw [if_pos rfl] at hv
      split at hv
      · rename_i hlt
        have hz := hx j _ (List.getElem?_eq_getElem hlt)
        have : o + j < cs.size := (Array.getElem?_eq_some_iff.1 hz).1
        simp [this]; simpa using hv
      · cases hv
    · rw [if_neg he] at hv
      rw [if_neg (by omega)]
      exact hx i v hv
/-- The slice is cut off behind k elements, its room stays. -/
theorem Sl.take (h : Sl w E size A n c xs F) {k : Nat} (hk : k ≤ n) : Sl w E size A k c (xs.take (k * size)) F := by
  refine ⟨by rw [List.length_take, h.1]; exact Nat.min_eq_left (Nat.mul_le_mul_right _ hk), by have := h.2.1; omega, h.2.2.1, ?_⟩
  rcases h.2.2.2 with h0 | ⟨b, o, cs, hA, hF, hh, hs, hx⟩
  · exact .inl h0
  · refine .inr ⟨b, o, cs, hA, hF, hh, hs, fun j u hu => hx j u ?_⟩
    rw [List.getElem?_take] at hu
    split at hu
    · exact hu
    · cases hu
end

/-- 'append(s, x...)' onto a slice of the call's own; x is read as cells. -/
theorem run_append_sl {P : Program} (w : World) (t tx ty E : TypeId) (i : TypeInfo) (z : Value) (size bytes : Nat) (ht : P.underlying t = some (.slice E)) (hi : P.info? E = some i) (hz : i.zero = some z)
    (hsize : i.size = size) (hby : i.bytes = bytes) (hzs : z.cells.size = size)
    {A : Option Addr} {n c : Nat} {xs : List Value} {F : Option Nat} (h : Sl w E size A n c xs F) (x : Value) (m : Nat) (news : List Value) (hs : Src P size tx x m news w)
    (h63 : n + m ≤ maxLen) (hbytes : (n + m) * bytes ≤ 140737488355328) :
    ∃ A' c' w' F', (Builtin.append_ #[t, tx] ty #[.slice A n c, x]).run P w = .ok (.slice A' (n + m) c') w' ∧ Sl w' E size A' (n + m) c' (xs ++ news) F' ∧ Only (fun k => F = some k) w w' ∧ (F' = F ∨ F' = some w.heap.size) := by
  subst hsize hby
  rcases Nat.lt_or_ge c (n + m) with hgrow | hroom
  · have hold : (Builtin.firstCells i.size n (.slice A n c)).run P w.drew = .ok xs.toArray w.drew := by
      rcases h.2.2.2 with ⟨rfl, rfl, _⟩ | ⟨b, o, cs, rfl, hF, hh, hsz, hx⟩
      · have hn0 : n = 0 := by have := h.2.1; omega
        subst hn0
        have : xs = [] := List.eq_nil_of_length_eq_zero (by simpa using h.1)
        subst this
        exact run_firstCells_none w.drew i.size 0 0 0
      · exact run_firstCells_some w.drew i.size n ⟨b, o, none⟩ n c xs h.1 (fun j u hu => by
          rw [addr_add]
          show w.cell? _ = _
          rw [cell_of_row _ _ _ cs E _ hh]; exact hx j u hu)
    have hr := run_append_grow_src (P := P) w t tx ty E i z ht hi hz A n c xs hold x m news hs hgrow (by unfold maxLen at h63; omega) (growslice_fits hgrow hbytes)
    have hcap := grownCap_ge w (n + m) c E
    refine ⟨_, _, _, some w.heap.size, hr, ⟨?_, hcap, grownCap_le_maxLen w _ _ _ h63, .inr ⟨w.heap.size, 0, _, rfl, rfl, heap_alloc_new w.drew _, ?_, ?_⟩⟩, ?_, .inr rfl⟩
    · rw [List.length_append, h.1, hs.newsLen, Nat.add_mul]
    · simp only [Nat.zero_add, Array.size_append, List.size_toArray, List.length_append, h.1, hs.newsLen, Builtin.zeroCells, Array.size_map, Array.size_range, hzs]
      rw [← Nat.add_mul, ← Nat.add_mul]
      exact Nat.mul_le_mul_right _ (by omega)
    · intro j u hu
      rw [Nat.zero_add, Array.getElem?_append]
      have hlt : j < (xs ++ news).length := (List.getElem?_eq_some_iff.1 hu).1
      rw [if_pos (by simpa using hlt)]
      simpa using hu
    · exact (Only.refl _ w).drew.alloc _
  · rcases h.2.2.2 with ⟨rfl, h0, hF⟩ | ⟨b, o, cs, rfl, hF, hh, hsz, hx⟩
    · have hn0 : n = 0 := by omega
      have hm0 : m = 0 := by omega
      subst hn0 hm0 h0
      have hx0 : xs = [] := List.eq_nil_of_length_eq_zero (by simpa using h.1)
      have hn0 : news = [] := List.eq_nil_of_length_eq_zero (by simpa using hs.newsLen)
      subst hx0 hn0
      refine ⟨none, 0, w, F, ?_, by simpa using h, Only.refl _ _, .inl rfl⟩
      rcases hs.kind with ⟨e', hk⟩ | hk <;> simp [Builtin.append_, run_underlying ht, run_underlying hk, sizeOf, typeInfo, hi, hs.len, hs.cells]
    · have hin : n * i.size + news.length ≤ c * i.size := by rw [hs.newsLen, ← Nat.add_mul]; exact Nat.mul_le_mul_right _ hroom
      have hr := run_append_room_src (P := P) w t tx ty E i ht hi b o n c x m news hs hroom
        (fun j hj => by
          rw [cell_of_row _ _ _ cs E _ hh, Array.getElem?_eq_getElem (by omega)]; rfl)
        (fun j hj => frozen_of_row w b _ cs E hh)
      refine ⟨_, _, _, F, hr, ⟨?_, hroom, h.2.2.1, .inr ⟨b, o, _, rfl, hF, heap_setCells_same news w b _ cs E hh, by rw [setA_size]; exact hsz, ?_⟩⟩, ?_, .inl rfl⟩
      · rw [List.length_append, h.1, hs.newsLen, Nat.add_mul]
      · intro j u hu
        rw [setA_at _ _ _ _ (by omega)]
        rw [List.getElem?_append] at hu
        split at hu
        · rename_i hlt
          rw [if_neg (by rw [h.1] at hlt; omega)]
          exact hx j u hu
        · rename_i hge
          have hlt := (List.getElem?_eq_some_iff.1 hu).1
          rw [h.1] at hge hlt hu
          rw [if_pos (by omega), ← hu]
          congr 1; omega
      · exact (only_setCells w b _ news).mono fun k hk _ => by rw [hF, hk]

/-- An empty slice that is not nil, new. -/
theorem sl_lit0 (w : World) (E : TypeId) (size : Nat) : Sl (w.alloc (.cells #[] E)) E size (some ⟨w.heap.size, 0, none⟩) 0 0 [] (some w.heap.size) :=
  ⟨by simp, Nat.le_refl _, by unfold maxLen; omega, .inr ⟨w.heap.size, 0, #[], rfl, rfl, heap_alloc_new w _, by simp, fun j u hu => by simp at hu⟩⟩
/-- A row of the call's own, as it was made. -/
theorem sl_made {w : World} (g : Nat) (E : TypeId) (size n : Nat) (cs : Array Value) (hg : w.heap.size = g) (hs : cs.size = n * size) (hm : n ≤ maxLen) : Sl (w.alloc (.cells cs E)) E size (some ⟨g, 0, none⟩) n n cs.toList (some g) :=
  ⟨by simpa using hs, Nat.le_refl _, hm, .inr ⟨g, 0, cs, rfl, rfl, Blk.newAt hg E cs, by omega, fun j u hu => by simpa using hu⟩⟩
theorem Sl.alloc {w : World} {E : TypeId} {size n c : Nat} {A : Option Addr} {xs : List Value} {F : Option Nat} (h : Sl w E size A n c xs F) (o : Obj) : Sl (w.alloc o) E size A n c xs F :=
  h.keep fun b hb => Below.heap_alloc w o b (h.lt hb)
theorem Sl.below {w w' : World} {B : Nat} {E : TypeId} {size n c : Nat} {A : Option Addr} {xs : List Value} {F : Option Nat} (h : Sl w E size A n c xs F) (hb : Below B w w') (hB : ∀ b, F = some b → b < B) : Sl w' E size A n c xs F :=
  h.keep fun b hf => hb.block b (hB b hf)
theorem wp_append_sl {P : Program} (w : World) {o : Oper} {a : Act} {K : Act → World → Prop} {Q : Exit → Act → World → Prop} (s x : Operand) (t tx : TypeId)
    (ho : o.op = .call { callee := .builtin .append, args := #[s, x], argTypes := #[t, tx] })
    (E : TypeId) (i : TypeInfo) (z : Value) (size bytes : Nat) (ht : P.underlying t = some (.slice E)) (hi : P.info? E = some i) (hz : i.zero = some z)
    (hsize : i.size = size) (hby : i.bytes = bytes) (hzs : z.cells.size = size)
    (A : Option Addr) (n c : Nat) (xs : List Value) (F : Option Nat) (hes : a.eval s = .slice A n c) (h : Sl w E size A n c xs F) (v : Value) (m : Nat) (news : List Value) (hex : a.eval x = v) (hs : Src P size tx v m news w)
    (h63 : n + m ≤ maxLen) (hbytes : (n + m) * bytes ≤ 140737488355328)
    (hk : ∀ A' c' w' F', Sl w' E size A' (n + m) c' (xs ++ news) F' → Only (fun k => F = some k) w w' → (F' = F ∨ F' = some w.heap.size) → K (a.put o.dst (.slice A' (n + m) c')) w') : o.wp P a w K Q := by
  obtain ⟨A', c', w', F', hrun, h1, h2, h3⟩ := run_append_sl (P := P) w t tx o.type E i z size bytes ht hi hz hsize hby hzs h v m news hs h63 hbytes
  unfold Oper.wp execOp
  simp only [ho, resolve, invoke, builtin, Sem.run_bind, Sem.run_pure, Result.andThen_ok, List.map_toArray, List.map_cons, List.map_nil, hes, hex, hrun]
  exact hk A' c' w' F' h1 h2 h3
theorem wpList_append_sl {P : Program} (w : World) {ops : Array Oper} {rest : List Oper} {o : Oper} {a : Act} {Q : Exit → Act → World → Prop} (hgd : o.guard = none) (s x : Operand) (t tx : TypeId)
    (ho : o.op = .call { callee := .builtin .append, args := #[s, x], argTypes := #[t, tx] })
    (E : TypeId) (i : TypeInfo) (z : Value) (size bytes : Nat) (ht : P.underlying t = some (.slice E)) (hi : P.info? E = some i) (hz : i.zero = some z)
    (hsize : i.size = size) (hby : i.bytes = bytes) (hzs : z.cells.size = size)
    (A : Option Addr) (n c : Nat) (xs : List Value) (F : Option Nat) (hes : a.eval s = .slice A n c) (h : Sl w E size A n c xs F) (v : Value) (m : Nat) (news : List Value) (hex : a.eval x = v) (hs : Src P size tx v m news w)
    (h63 : n + m ≤ maxLen) (hbytes : (n + m) * bytes ≤ 140737488355328)
    (hk : ∀ A' c' w' F', Sl w' E size A' (n + m) c' (xs ++ news) F' → Only (fun k => F = some k) w w' → (F' = F ∨ F' = some w.heap.size) → wpList P ops Q rest (a.put o.dst (.slice A' (n + m) c')) w') : wpList P ops Q (o :: rest) a w :=
  wpList_plain hgd fun _ hK => wp_append_sl w s x t tx ho E i z size bytes ht hi hz hsize hby hzs A n c xs F hes h v m news hex hs h63 hbytes fun A' c' w' F' h1 h2 h3 => hK _ _ (hk A' c' w' F' h1 h2 h3)
/-- The same at a step of a region that draws its order. -/
theorem step_append_sl {P : Program} (w : World) {ops : Array Oper} {o : Oper} {a : Act} {K : Act → World → Prop} {Q : Exit → Act → World → Prop} {X : Prop} (hgd : o.guard = none) (s x : Operand) (t tx : TypeId)
    (ho : o.op = .call { callee := .builtin .append, args := #[s, x], argTypes := #[t, tx] })
    (E : TypeId) (i : TypeInfo) (z : Value) (size bytes : Nat) (ht : P.underlying t = some (.slice E)) (hi : P.info? E = some i) (hz : i.zero = some z)
    (hsize : i.size = size) (hby : i.bytes = bytes) (hzs : z.cells.size = size)
    (A : Option Addr) (n c : Nat) (xs : List Value) (F : Option Nat) (hes : a.eval s = .slice A n c) (h : Sl w E size A n c xs F) (v : Value) (m : Nat) (news : List Value) (hex : a.eval x = v) (hs : Src P size tx v m news w)
    (h63 : n + m ≤ maxLen) (hbytes : (n + m) * bytes ≤ 140737488355328)
    (hk : ∀ A' c' w' F', Sl w' E size A' (n + m) c' (xs ++ news) F' → Only (fun k => F = some k) w w' → (F' = F ∨ F' = some w.heap.size) → K (a.put o.dst (.slice A' (n + m) c')) w') :
    if Region.wanted o (yielded ops a.tmps) = true then Oper.wp P o a w K Q else X := by
  have hw : Region.wanted o (yielded ops a.tmps) = true := by simp [Region.wanted, hgd]
  rw [if_pos hw]
  exact wp_append_sl w s x t tx ho E i z size bytes ht hi hz hsize hby hzs A n c xs F hes h v m news hex hs h63 hbytes hk
/-- What is appended, read as a row of cells. -/
theorem src_row {P : Program} {w : World} {B size m c : Nat} {tx e' : TypeId} {A : Option Addr} {news : List Value} (hk : P.underlying tx = some (.slice e')) (hr : Row w B size A m news) (h1 : ∀ u ∈ news, u.oneCell' = true) (hA : A = none → c = 0) :
    Src P size tx (.slice A m c) m news w := by
  rcases A with _ | ad
  · have hm : m = 0 := by
      rcases Nat.eq_zero_or_pos m with h0 | h0
      · exact h0
      · obtain ⟨b, o, h, _⟩ := hr.2 h0; cases h
    subst hm
    have hn : news = [] := List.eq_nil_of_length_eq_zero (by simpa using hr.1)
    subst hn
    exact Src.ofNil w hk c
  · refine Src.ofSlice w hk ad m c news hr.1 (fun j u hu => ?_) h1
    rcases Nat.eq_zero_or_pos m with h0 | h0
    · subst h0
      have hn : news = [] := List.eq_nil_of_length_eq_zero (by simpa using hr.1)
      subst hn; simp at hu
    · obtain ⟨b, o, h, _, hc⟩ := hr.2 h0
      cases h
      rw [addr_add]; exact hc j u hu
/-- A new block known whole, as what is appended: m elements of 'size' cells. -/
theorem src_new {P : Program} (w : World) {size m c g : Nat} {tx e' E : TypeId} (cs : Array Value) (hg : w.heap.size = g) (hk : P.underlying tx = some (.slice e')) (hm : cs.size = m * size) (h1 : ∀ u ∈ cs.toList, u.oneCell' = true) :
    Src P size tx (.slice (some ⟨g, 0, none⟩) m c) m cs.toList (w.alloc (.cells cs E)) :=
  Src.ofSlice _ hk _ m c cs.toList (by simpa using hm) (fun j u hu => by
    rw [addr_add, Nat.zero_add, (Blk.newAt hg E cs).cell]; simpa using hu) h1

/-! ### s[k:], clear -/
theorem run_slice_from {P : Program} (t e : TypeId) (i : TypeInfo) (ht : P.underlying t = some (.slice e)) (hi : P.info? e = some i) (A : Option Addr) (n c k : Nat) (kk : IntKind) (hk : k ≤ n) (w : World) :
    (Instr.slice t (.slice A n c) (some (.int kk (k : Int))) none none).run P w = .ok (.slice (if c = k then A else A.map (·.add (k * i.size))) (n - k) (c - k)) w := by
  have ht' : P.underlying t = some (.slice (P.elem t)) := by rw [ht]; simp [Program.elem, ht]
  have he : P.elem t = e := by simp [Program.elem, ht]
  rw [run_slice_l (P := P) (w := w) t A n c ht' kk (k : Int) (by omega) (by omega), he]
  simp [sizeOf, typeInfo, hi, sliced]
theorem run_clear_row {P : Program} (t e : TypeId) (i : TypeInfo) (z : Value) (ty : TypeId) (ht : P.underlying t = some (.slice e)) (hi : P.info? e = some i) (hz : i.zero = some z) (h1 : ∀ u ∈ z.cells, u.oneCell' = true)
    (b o k c : Nat) (hk : 0 < k) (w : World) (hc : ∀ j, j < k * z.cells.size → (w.cell? ⟨b, o + j, none⟩).isSome = true) (hf : ∀ j, w.frozen? ⟨b, j, none⟩ = false) :
    (Builtin.clear_ #[t] ty #[.slice (some ⟨b, o, none⟩) k c]).run P w = .ok (.tuple #[]) (w.setCells b o (Builtin.zeroCells z.cells k).toList) := by
  have hst := run_storeCells_cells (P := P) b o (Builtin.zeroCells z.cells k).toList 0 w (fun j hj => by rw [Nat.add_zero]; exact hc j (by simpa [Builtin.zeroCells] using hj)) (fun j _ => hf _) (fun v hv => by
    simp only [Builtin.zeroCells, Array.mem_toList_iff, Array.mem_map] at hv
    obtain ⟨q, hq, rfl⟩ := hv
    simp only [Array.mem_range] at hq
    have hpos : 0 < z.cells.size := by
      rcases Nat.eq_zero_or_pos z.cells.size with h | h
      · rw [h] at hq; simp at hq
      · exact h
    have hlt : q % z.cells.size < z.cells.size := Nat.mod_lt _ hpos
    rw [getElem!_pos z.cells _ hlt]
    exact h1 _ (Array.getElem_mem hlt))
  rw [Nat.add_zero] at hst
  obtain ⟨k', rfl⟩ : ∃ m, k = m + 1 := ⟨k - 1, by omega⟩
  simp [Builtin.clear_, run_underlying ht, zeroValue, typeInfo, hi, hz, hst]
theorem run_clear_none {P : Program} (t e : TypeId) (ty : TypeId) (ht : P.underlying t = some (.slice e)) (A : Option Addr) (c : Nat) (w : World) :
    (Builtin.clear_ #[t] ty #[.slice A 0 c]).run P w = .ok (.tuple #[]) w := by
  cases A <;> simp [Builtin.clear_, run_underlying ht]
/-- The first k elements are cleared, and go. -/
theorem Sl.clear_cut {w : World} {E : TypeId} {size n c : Nat} {b o : Nat} {xs : List Value} {F : Option Nat} (h : Sl w E size (some ⟨b, o, none⟩) n c xs F) {k : Nat} (hk : k ≤ n) (vs : List Value) (hv : vs.length = k * size) :
    Sl (w.setCells b o vs) E size (if c = k then some ⟨b, o, none⟩ else some ⟨b, o + k * size, none⟩) (n - k) (c - k) (xs.drop (k * size)) F := by
  have hcut := h.cut hk
  refine ⟨hcut.1, hcut.2.1, hcut.2.2.1, ?_⟩
  rcases h.2.2.2 with ⟨h0, _⟩ | ⟨b', o', cs, hA, hF, hh, hs, hx⟩
  · cases h0
  · cases hA
    have hkc : k * size ≤ c * size := Nat.mul_le_mul_right _ (by have := h.2.1; omega)
    by_cases hck : c = k
    · rw [if_pos hck]
      refine .inr ⟨b, o, _, rfl, hF, heap_setCells_same vs w b o cs E hh, by rw [setA_size, hck]; simp; omega, fun j u hu => ?_⟩
      have hnk : n = k := by have := h.2.1; omega
      have : xs.drop (k * size) = [] := List.drop_eq_nil_of_le (by rw [h.1, hnk]; exact Nat.le_refl _)
      rw [this] at hu; simp at hu
    · rw [if_neg hck]
      refine .inr ⟨b, o + k * size, _, rfl, hF, heap_setCells_same vs w b o cs E hh, by rw [setA_size, Nat.sub_mul]; omega, fun j u hu => ?_⟩
      rw [setA_at _ _ _ _ (by omega), if_neg (by omega), Nat.add_assoc]
      rw [List.getElem?_drop] at hu
      exact hx _ u hu
theorem wpList_clear {P : Program} (w w' : World) {ops : Array Oper} {rest : List Oper} {o : Oper} {a : Act} {Q : Exit → Act → World → Prop} (hgd : o.guard = none) (x : Operand) (t : TypeId)
    (ho : o.op = .call { callee := .builtin .clear, args := #[x], argTypes := #[t] }) (v : Value) (hx : a.eval x = v) (hrun : (Builtin.clear_ #[t] o.type #[v]).run P w = .ok (.tuple #[]) w')
    (hk : wpList P ops Q rest (a.put o.dst (.tuple #[])) w') : wpList P ops Q (o :: rest) a w :=
  wpList_plain hgd fun K hK => by
    unfold Oper.wp execOp
    simp only [ho, resolve, invoke, builtin, Sem.run_bind, Sem.run_pure, Result.andThen_ok, List.map_toArray, List.map_cons, List.map_nil, hx, hrun]
    exact hK _ _ hk
end Go.Proofs.Ytlpjglcnbjbpcaa.Mem
