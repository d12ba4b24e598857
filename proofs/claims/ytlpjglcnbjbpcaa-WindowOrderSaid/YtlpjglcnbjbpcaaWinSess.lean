/- A window beside other things: each call leaves what is not the window's as it was. -/
import Derived.Test.YtlpjglcnbjbpcaaWinAck
import Derived.Test.YtlpjglcnbjbpcaaWinDueWalk
import Derived.Test.YtlpjglcnbjbpcaaConv
namespace Go.Proofs.Ytlpjglcnbjbpcaa.Win
open Go Go.RowKit Mem Conv

/-- Those blocks are as they were. -/
def Kept (H : Nat → Prop) (w w' : World) : Prop := ∀ k, H k → w'.heap[k]? = w.heap[k]?
theorem Kept.refl (H : Nat → Prop) (w : World) : Kept H w w := fun _ _ => rfl
theorem Kept.trans {H : Nat → Prop} {a b c : World} (h : Kept H a b) (k : Kept H b c) : Kept H a c := fun i hi => (k i hi).trans (h i hi)
theorem Kept.mono {H H' : Nat → Prop} {a b : World} (h : Kept H a b) (hh : ∀ k, H' k → H k) : Kept H' a b := fun i hi => h i (hh i hi)
theorem Taker.kept {w w' : World} {g last : Nat} {H : Nat → Prop} (h : Taker w g last) (k : Kept H w w') (hg : H g) : Taker w' g last := (k g hg).trans h
theorem Sents.kept {w w' : World} {A : Option Addr} {c : Nat} {l : List Out} {Fr : Option Nat} {H : Nat → Prop} (h : Sents w A c l Fr) (k : Kept H w w') (hg : ∀ b, RFoot Fr l b → H b) : Sents w' A c l Fr := h.keep fun b hb => k b (hg b hb)

/-- A window, begun behind the start w0; H: blocks of others. -/
def WS (w0 w : World) (g size last : Nat) (es : List Ent) (H : Nat → Prop) : Prop :=
  ∃ A c Fl, Win w g size last es A c Fl ∧ (∀ k, WFoot g Fl es k → w0.heap.size ≤ k ∧ ¬ H k) ∧ (∀ k, H k → k < w.heap.size) ∧ Below w0.heap.size w0 w

theorem WS.below {w0 w : World} {g size last : Nat} {es : List Ent} {H : Nat → Prop} (h : WS w0 w g size last es H) : Below w0.heap.size w0 w := by obtain ⟨_, _, _, _, _, _, h⟩ := h; exact h
theorem WS.bound {w0 w : World} {g size last : Nat} {es : List Ent} {H : Nat → Prop} (h : WS w0 w g size last es H) : es.length ≤ last ∧ last ≤ 4294967295 ∧ es.length ≤ size ∧ 1 ≤ size ∧ size ≤ 9223372036854775807 := by
  obtain ⟨_, _, _, h, _⟩ := h; exact ⟨h.le, h.hi, h.fits, h.s1, h.s2⟩
theorem WS.lt {w0 w : World} {g size last : Nat} {es : List Ent} {H : Nat → Prop} (h : WS w0 w g size last es H) : w0.heap.size ≤ g ∧ g < w.heap.size := by
  obtain ⟨_, _, _, h, hf, _⟩ := h; exact ⟨(hf _ (.inl rfl)).1, h.blk.lt⟩
/-- More blocks of others: old ones that are not the window's, or new ones. -/
theorem WS.more {w0 w w' : World} {g size last : Nat} {es : List Ent} {H H' : Nat → Prop} (h : WS w0 w g size last es H) (hb : Below w.heap.size w w') (hn : ∀ k, H' k → H k ∨ (w.heap.size ≤ k ∧ k < w'.heap.size)) : WS w0 w' g size last es H' := by
  obtain ⟨A, c, Fl, hW, hf, hH, hB⟩ := h
  refine ⟨A, c, Fl, hW.only (G := fun _ => False) (Only.of_below hb) (fun _ _ h => h), fun k hk => ⟨(hf k hk).1, fun h' => ?_⟩, fun k hk => ?_, hB.trans (hb.mono hB.size)⟩
  · rcases hn k h' with h1 | h1
    · exact (hf k hk).2 h1
    · have := hW.lt hk; omega
  · rcases hn k hk with h1 | h1
    · exact Nat.lt_of_lt_of_le (hH k h1) hb.size
    · exact h1.2
theorem WS.step {w0 w w' : World} {g size last : Nat} {es : List Ent} {H : Nat → Prop} (h : WS w0 w g size last es H) (hb : Below w.heap.size w w') : WS w0 w' g size last es H := h.more hb fun k hk => .inl hk
theorem WS.weaken {w0 w : World} {g size last : Nat} {es : List Ent} {H H' : Nat → Prop} (h : WS w0 w g size last es H) (hn : ∀ k, H' k → H k) : WS w0 w g size last es H' := h.more (Below.refl _ _) fun k hk => .inl (hn k hk)
/-- A step that may turn only what is of others. -/
theorem WS.other {w0 w w' : World} {g size last : Nat} {es : List Ent} {H G : Nat → Prop} (h : WS w0 w g size last es H) (ho : Only G w w') (hG : ∀ k, G k → k < w.heap.size → H k ∧ w0.heap.size ≤ k) : WS w0 w' g size last es H := by
  obtain ⟨A, c, Fl, hW, hf, hH, hB⟩ := h
  refine ⟨A, c, Fl, hW.only ho (fun k hk hg => (hf k hk).2 (hG k hg (hW.lt hk)).1), hf, fun k hk => Nat.lt_of_lt_of_le (hH k hk) ho.size, hB.trans ?_⟩
  exact ⟨ho.os, ho.tape, ho.output, ho.size, fun k hk => ho.block k (Nat.lt_of_lt_of_le hk hB.size) (fun hg => by have := (hG k hg (Nat.lt_of_lt_of_le hk hB.size)).2; omega)⟩

theorem ws_new (w0 w : World) (H : Nat → Prop) (size : Int) (hs : size ≤ 9223372036854775807) (hB : Below w0.heap.size w0 w) (hH : ∀ k, H k → k < w.heap.size) :
    Calls Try.prog 15 #[.int .i64 size] w fun e w' => ∃ g, e = .returned (.pointer (some ⟨g, 0, none⟩)) ∧ WS w0 w' g (max size 1).toNat 0 [] H ∧ Below w.heap.size w w' :=
  (new_any size w hs).mono fun e w' ⟨he, hW, hb⟩ => ⟨w.heap.size, he, ⟨none, 0, none, hW, fun k hk => by
    rcases hk with rfl | hk | ⟨e, he, _⟩
    · exact ⟨hB.size, fun h => by have := hH _ h; omega⟩
    · cases hk
    · simp at he, fun k hk => Nat.lt_of_lt_of_le (hH k hk) hb.size, hB.trans (hb.mono hB.size)⟩, hb⟩
theorem ws_len {w0 w : World} {g size last : Nat} {es : List Ent} {H : Nat → Prop} (h : WS w0 w g size last es H) :
    Calls Try.prog 23 #[.pointer (some ⟨g, 0, none⟩)] w fun e w' => e = .returned (.int .i64 (es.length : Int)) ∧ w = w' := by
  obtain ⟨A, c, Fl, hW, _⟩ := h; exact len_any w hW
theorem ws_push_full {w0 w : World} {g size last : Nat} {es : List Ent} {H : Nat → Prop} (h : WS w0 w g size last es H) (v : Value) (hf : size ≤ es.length ∨ last = 4294967295) :
    Calls Try.prog 16 #[.pointer (some ⟨g, 0, none⟩), v] w fun e w' => e = .returned (.tuple #[.int .u32 0, .int .i64 5]) ∧ WS w0 w' g size last es H ∧ Below w.heap.size w w' := by
  have h' := h
  obtain ⟨A, c, Fl, hW, _⟩ := h
  exact (push_full w hW v hf).mono fun e w' ⟨he, n, hw⟩ => by
    subst hw
    have hb := below_drewN (Below.refl w.heap.size w) n
    exact ⟨he, h'.step hb, hb⟩
theorem ws_push_room {w0 w : World} {g size last : Nat} {es : List Ent} {H : Nat → Prop} (h : WS w0 w g size last es H) (Ax : Option Addr) (n cx : Nat) (l : List Nat) (hr : Row w w.heap.size 1 Ax n (byts l)) (hl : l.length = n) (hb : ∀ u ∈ l, u < 256) (hA : Ax = none → cx = 0) (hm : n ≤ 70368744177664) (hxg : 0 < n → ∀ b o, Ax = some ⟨b, o, none⟩ → b ≠ g)
    (h1 : es.length < size) (h2 : last < 4294967295) :
    Calls Try.prog 16 #[.pointer (some ⟨g, 0, none⟩), .slice Ax n cx] w fun e w' => ∃ en : Ent, e = .returned (.tuple #[.int .u32 ((last + 1 : Nat) : Int), .int .i64 0]) ∧
      en.x = l ∧ en.told = false ∧ en.tm = 0 ∧ WS w0 w' g size (last + 1) (es ++ [en]) H ∧ Kept H w w' := by
  obtain ⟨A, c, Fl, hW, hf, hH, hB⟩ := h
  exact (push_room w hW Ax n cx l hr hl hb hA hm hxg h1 h2).mono fun e w' ⟨en, A', c', Fl', he, hx, ht, htm, hW', ho, hfr⟩ =>
    ⟨en, he, hx, ht, htm, ⟨A', c', Fl', hW', fun k hk => by
      rcases hfr k hk with h | h
      · exact hf k h
      · exact ⟨Nat.le_trans hB.size h, fun h' => by have := hH k h'; omega⟩, fun k hk => Nat.lt_of_lt_of_le (hH k hk) ho.size,
      hB.trans ⟨ho.os, ho.tape, ho.output, ho.size, fun k hk => ho.block k (Nat.lt_of_lt_of_le hk hB.size) (fun hw => by have := (hf k hw).1; omega)⟩⟩,
      fun k hk => ho.block k (hH k hk) (fun hw => (hf k hw).2 hk)⟩
theorem ws_ack {w0 w : World} {g size last : Nat} {es : List Ent} {H : Nat → Prop} (h : WS w0 w g size last es H) (seq : Nat) (hs : seq ≤ 4294967295) :
    Calls Try.prog 18 #[.pointer (some ⟨g, 0, none⟩), .int .u32 (seq : Int)] w fun e w' => e = .returned (.int .i64 (ackN last es.length seq : Int)) ∧
      WS w0 w' g size last (es.drop (ackN last es.length seq)) H ∧ Kept H w w' := by
  obtain ⟨A, c, Fl, hW, hf, hH, hB⟩ := h
  have hfo : ∀ k, (k = g ∨ Fl = some k) → WFoot g Fl es k := fun k hk => hk.elim .inl (fun h => .inr (.inl h))
  exact (ack_any w hW seq hs).mono fun e w' ⟨A', c', he, hW', ho⟩ =>
    ⟨he, ⟨A', c', Fl, hW', fun k hk => hf k (by
      rcases hk with hk | hk | ⟨e, he, hk⟩
      · exact .inl hk
      · exact .inr (.inl hk)
      · exact .inr (.inr ⟨e, List.mem_of_mem_drop he, hk⟩)), fun k hk => Nat.lt_of_lt_of_le (hH k hk) ho.size,
      hB.trans ⟨ho.os, ho.tape, ho.output, ho.size, fun k hk => ho.block k (Nat.lt_of_lt_of_le hk hB.size) (fun hw => by have := (hf k (hfo k hw)).1; omega)⟩⟩,
      fun k hk => ho.block k (hH k hk) (fun hw => (hf k (hfo k hw)).2 hk)⟩
theorem mark_F (now wait : Nat) (e : Ent) : (mark now wait e).F = e.F := by unfold mark; split <;> rfl
theorem ws_due {w0 w : World} {g size last : Nat} {es : List Ent} {H : Nat → Prop} (h : WS w0 w g size last es H) (now wait : Nat) (hnow : now < 18446744073709551616) (hwait : wait < 18446744073709551616) (hx : ∀ e ∈ es, e.x.length ≤ 70368744177664) :
    Calls Try.prog 17 #[.pointer (some ⟨g, 0, none⟩), .int .u64 (now : Int), .int .u64 (wait : Int)] w fun e w' => ∃ (outs : List Out) (Ar : Option Addr) (cr : Nat) (Fr : Option Nat),
      e = .returned (.slice Ar outs.length cr) ∧ WS w0 w' g size last (es.map (mark now wait)) (fun k => H k ∨ RFoot Fr outs k) ∧ Sents w' Ar cr outs Fr ∧ outs.map (fun o => (o.seq, o.x)) = dueTo now wait (last - es.length + 1) es es.length ∧
      Kept H w w' ∧ (∀ b, RFoot Fr outs b → w.heap.size ≤ b) ∧ w.heap.size ≤ w'.heap.size := by
  obtain ⟨A, c, Fl, hW, hf, hH, hB⟩ := h
  exact (due_any w hW now wait hnow hwait hx).mono fun e w' ⟨outs, Ar, cr, Fr, he, hW', hS, hmap, hfr, ho⟩ =>
    ⟨outs, Ar, cr, Fr, he, ⟨A, c, Fl, hW', fun k hk => by
      have hk' : WFoot g Fl es k := by
        rcases hk with hk | hk | ⟨e, he, hk⟩
        · exact .inl hk
        · exact .inr (.inl hk)
        · obtain ⟨e', he', rfl⟩ := List.mem_map.1 he
          exact .inr (.inr ⟨e', he', by rw [← mark_F now wait e']; exact hk⟩)
      refine ⟨(hf k hk').1, fun h' => ?_⟩
      rcases h' with h' | h'
      · exact (hf k hk').2 h'
      · have := hfr k h'; have := hW.lt hk'; omega, fun k hk => by
      rcases hk with hk | hk
      · exact Nat.lt_of_lt_of_le (hH k hk) ho.size
      · exact hS.lt hk,
      hB.trans ⟨ho.os, ho.tape, ho.output, ho.size, fun k hk => ho.block k (Nat.lt_of_lt_of_le hk hB.size) (fun hw => by have := (hf k (.inr (.inl hw))).1; omega)⟩⟩, hS, hmap,
      fun k hk => ho.block k (hH k hk) (fun hw => (hf k (.inr (.inl hw))).2 hk), hfr, ho.size⟩
theorem outCells_at (l : List Out) (i j : Nat) (hi : i < l.length) (hj : j < 2) : (outCells l)[i * 2 + j]? = (l[i]).cells[j]? := by
  induction l generalizing i with
  | nil => simp at hi
  | cons e es ih =>
    cases i with
    | zero =>
      simp only [outCells, List.flatMap_cons, Nat.zero_mul, Nat.zero_add, List.getElem_cons_zero]
      rw [List.getElem?_append_left (by simp [Out.cells]; omega)]
    | succ i =>
      simp only [outCells, List.flatMap_cons, List.getElem_cons_succ]
      rw [List.getElem?_append_right (by simp [Out.cells]; omega)]
      have : (i + 1) * 2 + j - e.cells.length = i * 2 + j := by simp [Out.cells]; omega
      rw [this]
      exact ih i (by simpa using hi)
/-- The cells of the i-th that is told. -/
theorem Sents.cells {w : World} {A : Option Addr} {c : Nat} {l : List Out} {Fr : Option Nat} (h : Sents w A c l Fr) (i : Nat) (hi : i < l.length) : ∃ b o, A = some ⟨b, o, none⟩ ∧ b < w.heap.size ∧
    w.cell? ⟨b, o + i * 2, none⟩ = some (.int .u32 (l[i].seq : Int)) ∧ w.cell? ⟨b, o + i * 2 + 1, none⟩ = some (.slice l[i].A l[i].x.length l[i].c) := by
  obtain ⟨b, o, hA, _, hb, hc, _⟩ := h.sl.form (by omega)
  exact ⟨b, o, hA, hb, hc (i * 2 + 0) _ (outCells_at l i 0 hi (by omega)), hc (i * 2 + 1) _ (outCells_at l i 1 hi (by omega))⟩
theorem map_one {outs : List Out} {s : Nat} {x : List Nat} (h : outs.map (fun o => (o.seq, o.x)) = [(s, x)]) : ∃ o, outs = [o] ∧ o.seq = s ∧ o.x = x := by
  match outs, h with
  | [o], h =>
    simp only [List.map_cons, List.map_nil, List.cons.injEq, Prod.mk.injEq, and_true] at h
    exact ⟨o, rfl, h.1, h.2⟩
theorem map_nil' {outs : List Out} (h : outs.map (fun o => (o.seq, o.x)) = []) : outs = [] := by simpa using h
theorem due_one_yes (now wait f : Nat) (e : Ent) (h : again now wait e = true) : dueTo now wait f [e] 1 = [(f, e.x)] := by simp [dueTo, h]
theorem due_one_no (now wait f : Nat) (e : Ent) (h : again now wait e = false) : dueTo now wait f [e] 1 = [] := by simp [dueTo, h]
theorem mark_yes {now wait : Nat} {e : Ent} (h : again now wait e = true) : mark now wait e = { e with told := true, tm := now } := by unfold mark; rw [h]; rfl
theorem mark_no {now wait : Nat} {e : Ent} (h : again now wait e = false) : mark now wait e = e := by unfold mark; rw [h]; rfl
end Go.Proofs.Ytlpjglcnbjbpcaa.Win
