/- The walk of what must be in any case. -/
import Derived.Test.YtjecjiopbkoihaaDoorCrcJoin
import Derived.Lib.SlBytesConst
namespace Go.Proofs.YtjecjiopbkoihaaDoor.Crc
open Go Go.RowKit Mem

def dig9 : List Nat := [49, 50, 51, 52, 53, 54, 55, 56, 57]
def dig4 : List Nat := [49, 50, 51, 52]
def dig5 : List Nat := [53, 54, 55, 56, 57]
theorem un_dig9 : un (sum dig9) = 3421780262 := by decide +kernel
theorem un_none : un (sum []) = 0 := by decide +kernel
theorem un_join : un (join (sum dig4) (sum dig5) 5) = 3421780262 := by decide +kernel

theorem row_new (w0 : World) (E : TypeId) (l : List Nat) (fr : Nat × Nat) (B g : Nat) (hg : w0.heap.size = g) (hB : g < B) : Row (w0.alloc (.cells (byts l).toArray E fr)) B 1 (some ⟨g, 0, none⟩) l.length (byts l) := by
  subst hg
  refine ⟨by simp [byts], fun hn => ⟨_, 0, rfl, hB, fun j u hu => ?_⟩⟩
  rw [cell_of_row _ _ _ (byts l).toArray E fr (heap_alloc_new w0 _)]
  simpa using hu

theorem conv_const (W : World) (C : Array Value) (n c g : Nat) (hg : W.heap.size = g) :
    (convert 22 22 (.slice (some ⟨g, 0, none⟩) n c)).run Tryd.prog (W.alloc (.cells C 5)) = .ok (.slice (some ⟨g, 0, none⟩) n c) (W.alloc (.cells C 5 (C.size, C.size + 1))) := by
  subst hg
  exact Lib.run_convert_bytes_const (P := Tryd.prog) W 22 5 C n c Tryd.underlying22 Tryd.underlying5

set_option maxHeartbeats 400000 in
theorem shown_any (w : World) (ht : Tab w) :
    Calls Tryd.prog 10 #[] w fun e w' => e = .returned (.bool true) ∧ Below w.heap.size w w' := by
  have h9 : (un (sum dig9) == 3421780262) = true := by rw [un_dig9]; rfl
  have h0 : (un (sum []) == 0) = true := by rw [un_none]; rfl
  have hj : (un (join (sum dig4) (sum dig5) 5) == 3421780262) = true := by rw [un_join]; rfl
  have kc := conv_const
  go_enter Tryd.func10, Tryd.ntmps10
  have hp := ht.pos
  have b1 : ∀ C T fr, Below w.heap.size w (w.alloc (.cells C T fr)) := fun C T fr => (Below.refl _ _).alloc (Nat.le_refl _) _
  have b2 : ∀ C T fr C' T' fr', Below w.heap.size w ((w.alloc (.cells C T fr)).alloc (.cells C' T' fr')) := fun C T fr C' T' fr' => (b1 C T fr).alloc (by simp) _
  have b3 : ∀ C T fr C' T' fr' C2 T2 fr2, Below w.heap.size w (((w.alloc (.cells C T fr)).alloc (.cells C' T' fr')).alloc (.cells C2 T2 fr2)) := fun C T fr C' T' fr' C2 T2 fr2 => (b2 C T fr C' T' fr').alloc (by simp; omega) _
  have t1 : ∀ C T fr, Tab (w.alloc (.cells C T fr)) := fun C T fr => ht.below (b1 C T fr) hp
  have t2 : ∀ C T fr C' T' fr', Tab ((w.alloc (.cells C T fr)).alloc (.cells C' T' fr')) := fun C T fr C' T' fr' => ht.below (b2 _ _ _ _ _ _) hp
  have t3 : ∀ C T fr C' T' fr' C2 T2 fr2, Tab (((w.alloc (.cells C T fr)).alloc (.cells C' T' fr')).alloc (.cells C2 T2 fr2)) := fun C T fr C' T' fr' C2 T2 fr2 => ht.below (b3 _ _ _ _ _ _ _ _ _) hp
  have B3 := Lib.hid b3; have T1 := Lib.hid t1; have T2 := Lib.hid t2; have T3 := Lib.hid t3
  clear b1 b2 b3 t1 t2 t3 hp
  go_wp2_with fail
  refine (sum_any dig9 (some ⟨w.heap.size, 0, none⟩) (w.heap.size + 1) 9 _ (T1.out _ _ _) (row_new w _ dig9 _ _ _ rfl (by omega)) (by decide) (by decide)).mono ?_
  rintro e w' ⟨rfl, rfl⟩
  go_wp2_with fail
  refine (sum_any [] none 0 0 _ (T1.out _ _ _) Row.none_ (by decide) (by decide)).mono ?_
  rintro e w' ⟨rfl, rfl⟩
  go_wp2_with fail
  refine (sum_any dig4 (some ⟨w.heap.size + 1, 0, none⟩) (w.heap.size + 2) 4 _ (T2.out _ _ _ _ _ _) (row_new _ _ dig4 _ _ _ (by simp) (by omega)) (by decide) (by decide)).mono ?_
  rintro e w' ⟨rfl, rfl⟩
  go_wp2_with fail
  refine (sum_any dig5 (some ⟨w.heap.size + 1 + 1, 0, none⟩) (w.heap.size + 3) 5 _ (T3.out _ _ _ _ _ _ _ _ _) (row_new _ _ dig5 _ _ _ (by simp) (by omega)) (by decide) (by decide)).mono ?_
  rintro e w' ⟨rfl, rfl⟩
  go_wp2_with fail
  refine (join_any _ _ 5 _ (T3.out _ _ _ _ _ _ _ _ _) (by decide)).mono ?_
  rintro e w' ⟨rfl, hb⟩
  go_wp2_with fail
  go_ret
  exact ⟨rfl, (B3.out _ _ _ _ _ _ _ _ _).trans (hb.mono (by simp; omega))⟩
end Go.Proofs.YtjecjiopbkoihaaDoor.Crc
