/- A text and its bytes; bytes that become a text; a constant that becomes bytes. -/
import Derived.Test.YtlpjglcnbjbpcaaProg
import Derived.Test.YtlpjglcnbjbpcaaFoot
import Derived.Laws.BytesArg
import Derived.Lib.SlBytesConst
namespace Go.Proofs.Ytlpjglcnbjbpcaa.Conv
open Go Go.RowKit Mem

/-- A text's bytes. -/
def sb (s : ByteArray) : List Nat := s.data.toList.map UInt8.toNat
theorem sb_length (s : ByteArray) : (sb s).length = s.size := by simp [sb]
theorem sb_lt (s : ByteArray) : ∀ u ∈ sb s, u < 256 := by
  intro u hu
  simp only [sb, List.mem_map] at hu
  obtain ⟨c, _, rfl⟩ := hu
  exact c.toNat_lt
theorem sb_at (s : ByteArray) (k : Nat) (h : k < s.size) : (s[k]'h).toNat = (sb s).getD k 0 := by
  have hk : k < (sb s).length := by rw [sb_length]; exact h
  rw [List.getD_eq_getElem?_getD, List.getElem?_eq_getElem hk]
  simp [sb]; rfl
/-- Bytes as a text. -/
def strOf (l : List Nat) : ByteArray := ⟨(l.map UInt8.ofNat).toArray⟩
theorem sb_strOf {l : List Nat} (hl : ∀ u ∈ l, u < 256) : sb (strOf l) = l := by
  unfold sb strOf
  simp only [List.map_map]
  conv => rhs; rw [← List.map_id l]
  apply List.map_congr_left
  intro u hu
  have := hl u hu
  simp only [Function.comp, UInt8.toNat_ofNat', id]
  omega
theorem strOf_size (l : List Nat) : (strOf l).size = l.length := by simp [strOf, ByteArray.size]
theorem strOf_nums (l : List Nat) : strOfNums (l.map fun c : Nat => (c : Int)) = strOf l := by
  unfold strOfNums strOf
  rw [List.map_map]
  rfl
theorem conv_row (l : List Nat) (A : Option Addr) (B n c : Nat) (w : World) (hr : Row w B 1 A n (byts l)) (hn : l.length = n) :
    (convert 31 9 (.slice A n c)).run Try.prog w = .ok (.string (strOf l)) w := by
  subst hn
  rcases Nat.eq_zero_or_pos l.length with h0 | h0
  · have hl0 : l = [] := List.eq_nil_of_length_eq_zero h0
    subst hl0
    cases A with
    | none => exact run_convert_bytes_nil w _ _ Try.underlying31 Try.underlying5 _ _ _ Try.underlying9
    | some ad =>
      have hl : (loadCells ad 0).run Try.prog w = .ok ((([] : List Int).map (Value.int .u8)).toArray) w := rfl
      rw [run_convert_bytes_string w _ _ _ _ _ c Try.underlying31 Try.underlying5 Try.underlying9]
      exact run_bytesToString w ad 0 c [] hl
  · obtain ⟨b, o, e, _, hc⟩ := hr.2 h0
    subst e
    rw [← strOf_nums]
    refine run_convert_bytes_arg w _ _ Try.underlying31 Try.underlying5 b o l.length c (l.map fun c : Nat => (c : Int)) (by simp) (fun i hi => ?_) _ Try.underlying9
    refine hc i _ ?_
    simp [byts, hi]

theorem conv_const (W : World) (C : Array Value) (n c g : Nat) (hg : W.heap.size = g) :
    (convert 31 31 (.slice (some ⟨g, 0, none⟩) n c)).run Try.prog (W.alloc (.cells C 5)) = .ok (.slice (some ⟨g, 0, none⟩) n c) (W.alloc (.cells C 5 (C.size, C.size + 1))) := by
  subst hg
  exact Lib.run_convert_bytes_const (P := Try.prog) W 31 5 C n c Try.underlying31 Try.underlying5
theorem row_new (w0 : World) (E : TypeId) (l : List Nat) (fr : Nat × Nat) (B g : Nat) (hg : w0.heap.size = g) (hB : g < B) : Row (w0.alloc (.cells (byts l).toArray E fr)) B 1 (some ⟨g, 0, none⟩) l.length (byts l) := by
  subst hg
  refine ⟨by simp [byts], fun hn => ⟨_, 0, rfl, hB, fun j u hu => ?_⟩⟩
  rw [cell_of_row _ _ _ (byts l).toArray E fr (heap_alloc_new w0 _)]
  simpa using hu
end Go.Proofs.Ytlpjglcnbjbpcaa.Conv
