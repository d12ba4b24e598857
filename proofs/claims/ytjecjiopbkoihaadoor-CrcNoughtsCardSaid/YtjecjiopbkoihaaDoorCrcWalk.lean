/- The walks of crc.half, crc.More, crc.Sum. -/
import Derived.Test.YtjecjiopbkoihaaDoorProg
import Derived.Test.YtjecjiopbkoihaaDoorCrcHalf
import Derived.Test.YtjecjiopbkoihaaDoorMem
import Derived.WalkKit
import Derived.Lib.Hide
import Derived.Laws.BytesArg
namespace Go.Proofs.YtjecjiopbkoihaaDoor.Crc
open Go Go.RowKit Mem

/-- The table of halves stands in its variable. -/
def Tab (w : World) : Prop := ∀ i : Nat, i < 16 → w.cell? ⟨0, i, none⟩ = some (.int .u32 (tab i))

theorem Tab.below {w w' : World} {B : Nat} (h : Tab w) (hb : Below B w w') (hB : 0 < B) : Tab w' := fun i hi => (hb.cell (p := ⟨0, i, none⟩) hB).trans (h i hi)
theorem Tab.pos {w : World} (h : Tab w) : 0 < w.heap.size := World.block_lt_of_cell? w _ (h 0 (by omega))

theorem half_any (x : BitVec 32) (w : World) (ht : Tab w) :
    Calls Tryd.prog 17 #[.int .u32 (un x)] w fun e w' => e = .returned (.int .u32 (un (half x))) ∧ w = w' := by
  have hc := ht (loN x) (loN_lt x)
  have hb := w_and15 x
  have hm := loN_lt x
  have hu := un_range x
  have HI := Lib.hid (w_half x)
  clear ht
  go_enter Tryd.func17, Tryd.ntmps17
  go_wp2
  go_ret
  exact ⟨by rw [← HI.out]; rfl, rfl⟩

theorem fold_take (s : BitVec 32) (l : List Nat) (k : Nat) (hk : k < l.length) : fold s (l.take (k + 1)) = upd (fold s (l.take k)) (l.getD k 0) := by
  rw [List.take_succ_eq_append_getElem hk, fold_append, List.getD_eq_getElem?_getD, List.getElem?_eq_getElem hk]; rfl

/-- Bytes as a text. -/
def strOf (l : List Nat) : ByteArray := ⟨(l.map UInt8.ofNat).toArray⟩
theorem sb_strOf {l : List Nat} (hl : ∀ u ∈ l, u < 256) : sb (strOf l) = l := by
  unfold sb strOf
  simp only [List.map_map]
  conv => rhs; rw [← List.map_id l]
  apply List.map_congr_left
  intro u hu
  have := hl u hu
  simp only [Function.comp, UInt8.toNat_ofNat', id]
  omega
theorem strOf_size (l : List Nat) : (strOf l).size = l.length := by simp [strOf, ByteArray.size]
theorem strOf_nums (l : List Nat) : strOfNums (l.map fun c : Nat => (c : Int)) = strOf l := by
  unfold strOfNums strOf
  rw [List.map_map]
  rfl
theorem conv_row (l : List Nat) (A : Option Addr) (B n c : Nat) (w : World) (hr : Row w B 1 A n (byts l)) (hn : l.length = n) :
    (convert 22 9 (.slice A n c)).run Tryd.prog w = .ok (.string (strOf l)) w := by
  subst hn
  rcases Nat.eq_zero_or_pos l.length with h0 | h0
  · have hl0 : l = [] := List.eq_nil_of_length_eq_zero h0
    subst hl0
    cases A with
    | none => exact run_convert_bytes_nil w _ _ Tryd.underlying22 Tryd.underlying5 _ _ _ Tryd.underlying9
    | some ad =>
      have hl : (loadCells ad 0).run Tryd.prog w = .ok ((([] : List Int).map (Value.int .u8)).toArray) w := rfl
      rw [run_convert_bytes_string w _ _ _ _ _ c Tryd.underlying22 Tryd.underlying5 Tryd.underlying9]
      exact run_bytesToString w ad 0 c [] hl
  · obtain ⟨b, o, e, _, hc⟩ := hr.2 h0
    subst e
    rw [← strOf_nums]
    refine run_convert_bytes_arg w _ _ Tryd.underlying22 Tryd.underlying5 b o l.length c (l.map fun c : Nat => (c : Int)) (by simp) (fun i hi => ?_) _ Tryd.underlying9
    refine hc i _ ?_
    simp [byts, hi]

/-- The sum behind k bytes; the k-th byte: names that the walk does not open. -/
def fst (x : BitVec 32) (l : List Nat) (k : Nat) : BitVec 32 := fold (~~~ x) (l.take k)
def bte (l : List Nat) (k : Nat) : Nat := l.getD k 0

theorem more_any (x : BitVec 32) (l : List Nat) (A : Option Addr) (B c : Nat) (w : World) (ht : Tab w) (hr : Row w B 1 A l.length (byts l)) (hl : ∀ u ∈ l, u < 256) (hm : l.length ≤ 9223372036854775807) :
    Calls Tryd.prog 13 #[.int .u32 (un x), .slice A l.length c] w fun e w' => e = .returned (.int .u32 (un (more x l))) ∧ w = w' := by
  have hn : bits .xor .u32 IntKind.u32.max (un x) = un (fst x l 0) := w_not x
  have HN := Lib.hid (w_not (fst x l l.length))
  go_enter Tryd.func13, Tryd.ntmps13
  go_wp2
  go_loop [0, 11] (fun s i => ∃ k : Nat, k ≤ l.length ∧ i = .int .i64 k ∧ s = .int .u32 (un (fst x l k))) (fun _ i => l.length - (intOf i).toNat)
  case atStart => exact ⟨0, Nat.zero_le _, rfl, rfl⟩
  case round =>
    obtain ⟨k, hk, rfl, rfl⟩ := hrel
    clear hn
    by_cases hlt : k < l.length
    · obtain ⟨b, o, u, rfl, _, hu, hc⟩ := hr.at_ hlt
      have hc' : w.cell? ⟨b, o + k, none⟩ = some (.int .u8 (bte l k)) := hc.trans (congrArg some (byts_at hu hlt))
      have hb1 : bte l k < 256 := byte_lt hl k
      have hbx := w_byte (fst x l k) (bte l k) hb1
      have HS := Lib.hid (show half (half (xorB (fst x l k) (byteB (bte l k)))) = fst x l (k + 1) by rw [half_half]; exact (fold_take _ _ _ hlt).symm)
      clear hu hc hr hl
      go_wp2_with (go_at_call 17; refine (half_any _ _ ht).mono ?_; rintro e w' ⟨rfl, rfl⟩)
      go_round
      case rel => exact ⟨k + 1, by omega, by go_num, by rw [HS.out]⟩
      case measure => simp [intOf]; omega
    · obtain rfl : k = l.length := by omega
      go_wp2
      go_ret
      exact ⟨by rw [HN.out]; simp [fst, more, notB], rfl⟩

theorem sum_any (l : List Nat) (A : Option Addr) (B c : Nat) (w : World) (ht : Tab w) (hr : Row w B 1 A l.length (byts l)) (hl : ∀ u ∈ l, u < 256) (hm : l.length ≤ 9223372036854775807) :
    Calls Tryd.prog 11 #[.slice A l.length c] w fun e w' => e = .returned (.int .u32 (un (sum l))) ∧ w = w' := by
  go_enter Tryd.func11, Tryd.ntmps11
  go_wp2_with (go_at_call 13; refine (more_any 0#32 l A B c _ ht hr hl hm).mono ?_; rintro e w' ⟨rfl, rfl⟩)
  go_ret
  exact ⟨rfl, rfl⟩
/-- The same, the length under a name. -/
theorem more_row (x : BitVec 32) (l : List Nat) (A : Option Addr) (B n c : Nat) (w : World) (ht : Tab w) (hr : Row w B 1 A n (byts l)) (hn : l.length = n) (hl : ∀ u ∈ l, u < 256) (hm : n ≤ 9223372036854775807) :
    Calls Tryd.prog 13 #[.int .u32 (un x), .slice A n c] w fun e w' => e = .returned (.int .u32 (un (more x l))) ∧ w = w' := by
  subst hn; exact more_any x l A B c w ht hr hl hm
theorem sum_row (l : List Nat) (A : Option Addr) (B n c : Nat) (w : World) (ht : Tab w) (hr : Row w B 1 A n (byts l)) (hn : l.length = n) (hl : ∀ u ∈ l, u < 256) (hm : n ≤ 9223372036854775807) :
    Calls Tryd.prog 11 #[.slice A n c] w fun e w' => e = .returned (.int .u32 (un (sum l))) ∧ w = w' := by
  subst hn; exact sum_any l A B c w ht hr hl hm
end Go.Proofs.YtjecjiopbkoihaaDoor.Crc
