/- The walks of crc.half, crc.More, crc.Sum. -/
import Derived.Test.YtjecjiopbkoihaaDoorProg
import Derived.Test.YtjecjiopbkoihaaDoorCrcHalf
import Derived.Test.YtjecjiopbkoihaaDoorMem
import Derived.WalkKit
import Derived.Lib.Hide
namespace Go.Proofs.YtjecjiopbkoihaaDoor.Crc
open Go Go.RowKit Mem

/-- The table of halves stands in its variable. -/
def Tab (w : World) : Prop := ∀ i : Nat, i < 16 → w.cell? ⟨0, i, none⟩ = some (.int .u32 (tab i))

theorem Tab.below {w w' : World} {B : Nat} (h : Tab w) (hb : Below B w w') (hB : 0 < B) : Tab w' := fun i hi => (hb.cell (p := ⟨0, i, none⟩) hB).trans (h i hi)
theorem Tab.pos {w : World} (h : Tab w) : 0 < w.heap.size := World.block_lt_of_cell? w _ (h 0 (by omega))

theorem half_any (x : BitVec 32) (w : World) (ht : Tab w) :
    Calls Tryd.prog 17 #[.int .u32 (un x)] w fun e w' => e = .returned (.int .u32 (un (half x))) ∧ w = w' := by
  have hc := ht (loN x) (loN_lt x)
  have hb := w_and15 x
  have hm := loN_lt x
  have hu := un_range x
  have HI := Lib.hid (w_half x)
  clear ht
  go_enter Tryd.func17, Tryd.ntmps17
  go_wp2
  go_ret
  exact ⟨by rw [← HI.out]; rfl, rfl⟩

/-- Bytes as cells. -/
def byts (l : List Nat) : List Value := l.map fun c : Nat => Value.int .u8 (c : Int)
theorem byts_at {l : List Nat} {k : Nat} {u : Value} (h : (byts l)[k]? = some u) (hk : k < l.length) : u = .int .u8 ((l.getD k 0 : Nat) : Int) := by
  unfold byts at h
  rw [List.getElem?_map, List.getElem?_eq_getElem hk] at h
  simp at h
  rw [← h, List.getD_eq_getElem?_getD, List.getElem?_eq_getElem hk]; rfl
theorem fold_take (s : BitVec 32) (l : List Nat) (k : Nat) (hk : k < l.length) : fold s (l.take (k + 1)) = upd (fold s (l.take k)) (l.getD k 0) := by
  rw [List.take_succ_eq_append_getElem hk, fold_append, List.getD_eq_getElem?_getD, List.getElem?_eq_getElem hk]; rfl

theorem byte_lt {l : List Nat} (hl : ∀ u ∈ l, u < 256) (k : Nat) : l.getD k 0 < 256 := by
  rw [List.getD_eq_getElem?_getD]
  by_cases hk : k < l.length
  · rw [List.getElem?_eq_getElem hk]; exact hl _ (List.getElem_mem hk)
  · rw [List.getElem?_eq_none (by omega)]; decide

/-- The sum behind k bytes; the k-th byte: names that the walk does not open. -/
def fst (x : BitVec 32) (l : List Nat) (k : Nat) : BitVec 32 := fold (~~~ x) (l.take k)
def bte (l : List Nat) (k : Nat) : Nat := l.getD k 0

theorem more_any (x : BitVec 32) (l : List Nat) (A : Option Addr) (B c : Nat) (w : World) (ht : Tab w) (hr : Row w B 1 A l.length (byts l)) (hl : ∀ u ∈ l, u < 256) (hm : l.length ≤ 9223372036854775807) :
    Calls Tryd.prog 13 #[.int .u32 (un x), .slice A l.length c] w fun e w' => e = .returned (.int .u32 (un (more x l))) ∧ w = w' := by
  have hn : bits .xor .u32 IntKind.u32.max (un x) = un (fst x l 0) := w_not x
  have HN := Lib.hid (w_not (fst x l l.length))
  go_enter Tryd.func13, Tryd.ntmps13
  go_wp2
  go_loop [0, 11] (fun s i => ∃ k : Nat, k ≤ l.length ∧ i = .int .i64 k ∧ s = .int .u32 (un (fst x l k))) (fun _ i => l.length - (intOf i).toNat)
  case atStart => exact ⟨0, Nat.zero_le _, rfl, rfl⟩
  case round =>
    obtain ⟨k, hk, rfl, rfl⟩ := hrel
    clear hn
    by_cases hlt : k < l.length
    · obtain ⟨b, o, u, rfl, _, hu, hc⟩ := hr.at_ hlt
      have hc' : w.cell? ⟨b, o + k, none⟩ = some (.int .u8 (bte l k)) := hc.trans (congrArg some (byts_at hu hlt))
      have hb1 : bte l k < 256 := byte_lt hl k
      have hbx := w_byte (fst x l k) (bte l k) hb1
      have HS := Lib.hid (show half (half (xorB (fst x l k) (byteB (bte l k)))) = fst x l (k + 1) by rw [half_half]; exact (fold_take _ _ _ hlt).symm)
      clear hu hc hr hl
      go_wp2_with (go_at_call 17; refine (half_any _ _ ht).mono ?_; rintro e w' ⟨rfl, rfl⟩)
      go_round
      case rel => exact ⟨k + 1, by omega, by go_num, by rw [HS.out]⟩
      case measure => simp [intOf]; omega
    · obtain rfl : k = l.length := by omega
      go_wp2
      go_ret
      exact ⟨by rw [HN.out]; simp [fst, more, notB], rfl⟩

theorem sum_any (l : List Nat) (A : Option Addr) (B c : Nat) (w : World) (ht : Tab w) (hr : Row w B 1 A l.length (byts l)) (hl : ∀ u ∈ l, u < 256) (hm : l.length ≤ 9223372036854775807) :
    Calls Tryd.prog 11 #[.slice A l.length c] w fun e w' => e = .returned (.int .u32 (un (sum l))) ∧ w = w' := by
  go_enter Tryd.func11, Tryd.ntmps11
  go_wp2_with (go_at_call 13; refine (more_any 0#32 l A B c _ ht hr hl hm).mono ?_; rintro e w' ⟨rfl, rfl⟩)
  go_ret
  exact ⟨rfl, rfl⟩
end Go.Proofs.YtjecjiopbkoihaaDoor.Crc
