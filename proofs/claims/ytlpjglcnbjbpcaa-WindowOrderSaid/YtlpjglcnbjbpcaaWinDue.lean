/- The walk of Window.Due. -/
import Derived.Test.YtlpjglcnbjbpcaaWinPush
namespace Go.Proofs.Ytlpjglcnbjbpcaa.Win
open Go Go.RowKit Mem

/-- Is a thing told (again)? -/
def again (now wait : Nat) (e : Ent) : Bool := !e.told || (decide (e.tm ≤ now) && decide (wait ≤ now - e.tm))
def mark (now wait : Nat) (e : Ent) : Ent := if again now wait e then { e with told := true, tm := now } else e
def esAt (now wait : Nat) (es : List Ent) (i : Nat) : List Ent := (es.take i).map (mark now wait) ++ es.drop i
theorem esAt_length (now wait : Nat) (es : List Ent) (i : Nat) (hi : i ≤ es.length) : (esAt now wait es i).length = es.length := by simp [esAt]; omega
theorem esAt_zero (now wait : Nat) (es : List Ent) : esAt now wait es 0 = es := by simp [esAt]
theorem esAt_all (now wait : Nat) (es : List Ent) : esAt now wait es es.length = es.map (mark now wait) := by simp [esAt]
theorem esAt_get (now wait : Nat) (es : List Ent) (i : Nat) (hi : i < es.length) : (esAt now wait es i)[i]? = some es[i] := by
  unfold esAt
  rw [List.getElem?_append_right (by simp; omega)]
  simp [hi, Nat.min_eq_left (Nat.le_of_lt hi)]
theorem esAt_succ (now wait : Nat) (es : List Ent) (i : Nat) (hi : i < es.length) : esAt now wait es (i + 1) = (esAt now wait es i).set i (mark now wait es[i]) := by
  unfold esAt
  rw [List.take_succ_eq_append_getElem hi, List.map_append, List.append_assoc]
  rw [List.set_append_right _ _ (by simp; omega)]
  congr 1
  have : i - ((es.take i).map (mark now wait)).length = 0 := by simp; omega
  rw [this, List.drop_eq_getElem_cons hi]
  rfl
theorem esAt_no (now wait : Nat) (es : List Ent) (i : Nat) (hi : i < es.length) (h : again now wait es[i] = false) : esAt now wait es (i + 1) = esAt now wait es i := by
  rw [esAt_succ now wait es i hi]
  have : mark now wait es[i] = es[i] := by unfold mark; rw [h]; rfl
  rw [this]
  apply List.ext_getElem?
  intro j
  rw [List.getElem?_set]
  by_cases hj : i = j
  · subst hj
    rw [if_pos rfl, esAt_length _ _ _ _ (Nat.le_of_lt hi), if_pos hi, esAt_get _ _ _ _ hi]
  · rw [if_neg hj]
/-- What is told: of the first i things. -/
def dueTo (now wait first : Nat) (es : List Ent) : Nat → List (Nat × List Nat)
  | 0 => []
  | i + 1 => match es[i]? with
    | some e => if again now wait e then dueTo now wait first es i ++ [(first + i, e.x)] else dueTo now wait first es i
    | none => dueTo now wait first es i
theorem dueTo_yes {now wait first : Nat} {es : List Ent} {i : Nat} (hi : i < es.length) (h : again now wait es[i] = true) : dueTo now wait first es (i + 1) = dueTo now wait first es i ++ [(first + i, es[i].x)] := by
  simp only [dueTo, List.getElem?_eq_getElem hi, h, if_true]
theorem dueTo_no {now wait first : Nat} {es : List Ent} {i : Nat} (hi : i < es.length) (h : again now wait es[i] = false) : dueTo now wait first es (i + 1) = dueTo now wait first es i := by
  simp [dueTo, List.getElem?_eq_getElem hi, h]

theorem dueTo_length (now wait first : Nat) (es : List Ent) : ∀ i, (dueTo now wait first es i).length ≤ i
  | 0 => Nat.le_refl _
  | i + 1 => by
    have := dueTo_length now wait first es i
    simp only [dueTo]
    split
    · split
      · simp; omega
      · omega
    · omega
/-- What is told, as it lies in memory. -/
structure Out where
  seq : Nat
  A : Option Addr
  c : Nat
  F : Option Nat
  x : List Nat
def Out.cells (o : Out) : List Value := [.int .u32 (o.seq : Int), .slice o.A o.x.length o.c]
def outCells (l : List Out) : List Value := l.flatMap Out.cells
structure Sents (w : World) (A : Option Addr) (c : Nat) (l : List Out) (Fr : Option Nat) : Prop where
  sl : Sl w 40 2 A l.length c (outCells l) Fr
  xs : ∀ o ∈ l, Own8 w o.A o.c o.F o.x
def RFoot (Fr : Option Nat) (l : List Out) (k : Nat) : Prop := Fr = some k ∨ ∃ o ∈ l, o.F = some k
theorem Sents.keep {w w' : World} {A : Option Addr} {c : Nat} {l : List Out} {Fr : Option Nat} (h : Sents w A c l Fr) (hk : ∀ k, RFoot Fr l k → w'.heap[k]? = w.heap[k]?) : Sents w' A c l Fr :=
  ⟨h.sl.keep fun b hb => hk b (.inl hb), fun o ho => ⟨(h.xs o ho).1.keep fun b hb => hk b (.inr ⟨o, ho, hb⟩), (h.xs o ho).2⟩⟩
theorem Sents.lt {w : World} {A : Option Addr} {c : Nat} {l : List Out} {Fr : Option Nat} (h : Sents w A c l Fr) {k : Nat} (hk : RFoot Fr l k) : k < w.heap.size := by
  rcases hk with hk | ⟨o, ho, hk⟩
  · exact h.sl.lt hk
  · exact (h.xs o ho).1.lt hk
theorem Sents.only {w w' : World} {A : Option Addr} {c : Nat} {l : List Out} {Fr : Option Nat} {G : Nat → Prop} (h : Sents w A c l Fr) (ho : Only G w w') (hn : ∀ k, RFoot Fr l k → ¬ G k) : Sents w' A c l Fr :=
  h.keep fun k hk => ho.block k (h.lt hk) (hn k hk)

theorem thCells_set (es : List Ent) (i : Nat) (hi : i < es.length) (t : Nat) :
    ((thCells es).set (i * 3 + 1) (.bool true)).set (i * 3 + 2) (.int .u64 (t : Int)) = thCells (es.set i { es[i] with told := true, tm := t }) := by
  induction es generalizing i with
  | nil => simp at hi
  | cons e es ih =>
    cases i with
    | zero => simp [thCells, Ent.cells]
    | succ i =>
      have := ih i (by simpa using hi)
      simp only [thCells, List.flatMap_cons, List.set_cons_succ, List.getElem_cons_succ] at this ⊢
      rw [← this]
      have e1 : (i + 1) * 3 + 1 = e.cells.length + (i * 3 + 1) := by simp [Ent.cells]; omega
      have e2 : (i + 1) * 3 + 2 = e.cells.length + (i * 3 + 2) := by simp [Ent.cells]; omega
      rw [e1, e2, List.set_append_right _ _ (by omega), List.set_append_right _ _ (by omega)]
      simp

/-- A thing is marked. -/
theorem win_mark {w : World} {g size last c : Nat} {es : List Ent} {A : Option Addr} {Fl : Option Nat} (h : Win w g size last es A c Fl) (i : Nat) (hi : i < es.length) (now : Nat) (hnow : now < 18446744073709551616) {b o : Nat} (hA : A = some ⟨b, o, none⟩) (hF : Fl = some b) :
    Win ((w.setCell ⟨b, o + (i * 3 + 1), none⟩ (.bool true)).setCell ⟨b, o + (i * 3 + 2), none⟩ (.int .u64 (now : Int))) g size last (es.set i { es[i] with told := true, tm := now }) A c Fl ∧
      Only (fun k => Fl = some k) w ((w.setCell ⟨b, o + (i * 3 + 1), none⟩ (.bool true)).setCell ⟨b, o + (i * 3 + 2), none⟩ (.int .u64 (now : Int))) := by
  have O : Only (fun k => Fl = some k) w ((w.setCell ⟨b, o + (i * 3 + 1), none⟩ (.bool true)).setCell ⟨b, o + (i * 3 + 2), none⟩ (.int .u64 (now : Int))) :=
    (((Only.refl (fun k => Fl = some k) w).set1 hF _ _).set1 hF _ _)
  refine ⟨⟨?_, ?_, ?_, ?_, by rw [List.length_set]; exact h.le, h.hi, by rw [List.length_set]; exact h.fits, h.s1, h.s2⟩, O⟩
  · rw [List.length_set]
    exact h.blk.only O fun e => blk_sl_ne h.blk h.sl (by decide) e
  · rw [List.length_set]
    subst hA
    have := (h.sl.set_ (i * 3 + 1) (.bool true)).set_ (i * 3 + 2) (.int .u64 (now : Int))
    rw [thCells_set es i hi now] at this
    exact this
  · intro e he
    rcases List.mem_or_eq_of_mem_set he with he | rfl
    · exact ⟨(h.xs e he).1.only O fun b hb hn => sl_ne h.sl (h.xs e he).1 (by decide) hn hb, (h.xs e he).2⟩
    · have he := List.getElem_mem hi
      exact ⟨(h.xs _ he).1.only O fun b hb hn => sl_ne h.sl (h.xs _ he).1 (by decide) hn hb, (h.xs _ he).2⟩
  · intro e he
    rcases List.mem_or_eq_of_mem_set he with he | rfl
    · exact h.tms e he
    · exact hnow

/-- What the loop keeps. -/
def DueRel (w : World) (g size last c : Nat) (es : List Ent) (A : Option Addr) (Fl : Option Nat) (now wait : Nat) (v i : Value) (wr : World) : Prop :=
  ∃ (k : Nat) (outs : List Out) (Ar : Option Addr) (cr : Nat) (Fr : Option Nat), k ≤ es.length ∧ i = .int .i64 (k : Int) ∧ v = .slice Ar outs.length cr ∧ Win wr g size last (esAt now wait es k) A c Fl ∧ Sents wr Ar cr outs Fr ∧
    outs.map (fun o => (o.seq, o.x)) = dueTo now wait (last - es.length + 1) es k ∧ (∀ b, RFoot Fr outs b → w.heap.size ≤ b) ∧ Only (fun b => Fl = some b) w wr

theorem due_close {w w6 w2 w4 : World} {g size last c k : Nat} {es : List Ent} {A : Option Addr} {Fl : Option Nat} {now wait : Nat} {outs : List Out} {Ar : Option Addr} {cr : Nat} {Fr : Option Nat} {T : Array Value} {A2 A4 : Option Addr} {c2 c4 seq : Nat} {F2 F4 : Option Nat} {l : List Nat}
    (hk : k < es.length) (hW : Win w6 g size last (esAt now wait es (k + 1)) A c Fl) (hS : Sents w6 Ar cr outs Fr) (hM : outs.map (fun o => (o.seq, o.x)) = dueTo now wait (last - es.length + 1) es k) (hag : again now wait es[k] = true)
    (hfr : ∀ b, RFoot Fr outs b → w.heap.size ≤ b) (hO : Only (fun b => Fl = some b) w w6) (hFl : ∀ b, Fl = some b → b < w.heap.size) (hl : l = es[k].x) (hseq : seq = last - es.length + 1 + k)
    (hown2 : Own8 w2 A2 c2 F2 l) (hbel2 : Below w6.heap.size w6 w2) (hfr2 : ∀ b, F2 = some b → w6.heap.size ≤ b)
    (hs4 : Sl w4 40 2 A4 (outs.length + 1) c4 (outCells outs ++ #[Value.int .u32 (seq : Int), .slice A2 l.length c2].toList) F4)
    (ho4 : Only (fun k => Fr = some k) (w2.alloc (.cells T 40)) w4) (hF4 : F4 = Fr ∨ F4 = some (w2.alloc (.cells T 40)).heap.size) :
    DueRel w g size last c es A Fl now wait (.slice A4 (outs.length + 1) c4) (.int .i64 ((k : Int) + 1)) w4 := by
  have hs6 : w6.heap.size ≤ w2.heap.size := hbel2.size
  have hws := hO.size
  have O62 : Only (fun k => Fr = some k) w6 w2 := ⟨hbel2.os, hbel2.tape, hbel2.output, hbel2.size, fun k hk _ => hbel2.block k hk⟩
  have O24 : Only (fun k => Fr = some k) w2 w4 := ((Only.refl (fun k => Fr = some k) w2).alloc _).trans ho4 (fun b hb _ => hb)
  have O64 : Only (fun k => Fr = some k) w6 w4 := O62.trans' O24
  have hsz : w2.heap.size < w4.heap.size := by have := ho4.size; simp at this; omega
  refine ⟨k + 1, outs ++ [⟨seq, A2, c2, F2, l⟩], A4, c4, F4, by omega, by simp, by simp, ?_, ⟨?_, ?_⟩, ?_, ?_, ?_⟩
  · refine hW.only O64 fun b hb hn => ?_
    rcases hb with rfl | hb | ⟨e, he, hb⟩
    · exact blk_sl_ne hW.blk hS.sl (by decide) hn
    · have h1 := hFl b hb; have h2 := hfr b (.inl hn); omega
    · exact sl_ne hS.sl (hW.xs e he).1 (by decide) hn hb
  · have e : outCells (outs ++ [⟨seq, A2, c2, F2, l⟩]) = outCells outs ++ #[Value.int .u32 (seq : Int), .slice A2 l.length c2].toList := by simp [outCells, Out.cells]
    rw [e, List.length_append]
    exact hs4
  · intro e he
    rcases List.mem_append.1 he with he | he
    · exact ⟨(hS.xs e he).1.only O64 fun b hb hn => sl_ne hS.sl (hS.xs e he).1 (by decide) hn hb, (hS.xs e he).2⟩
    · simp only [List.mem_singleton] at he
      subst he
      refine ⟨hown2.1.only O24 fun b hb hn => ?_, hown2.2⟩
      have h1 : w6.heap.size ≤ b := hfr2 b hb
      have h2 := hS.sl.lt hn
      omega
  · rw [List.map_append, hM, dueTo_yes hk hag, hl, hseq]; rfl
  · intro b hb
    rcases hb with hb | ⟨e, he, hb⟩
    · rcases hF4 with h | h
      · exact hfr b (.inl (h ▸ hb))
      · rw [h] at hb; simp at hb; omega
    · rcases List.mem_append.1 he with he | he
      · exact hfr b (.inr ⟨e, he, hb⟩)
      · simp only [List.mem_singleton] at he
        subst he
        have h1 : w6.heap.size ≤ b := hfr2 b hb
        omega
  · exact hO.trans O64 fun b hb hlt => by have := hfr b (.inl hb); omega
end Go.Proofs.Ytlpjglcnbjbpcaa.Win
