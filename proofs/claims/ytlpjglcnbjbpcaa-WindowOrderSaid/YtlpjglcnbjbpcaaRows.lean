/-
  No cell of these rows narrows 'for every input' (looked for: loops, veiled, ifaces, maps, wideKeys, modest, calm, conditions, laid).
  DERIVED. THE GIVEN ROWS OF THIS SEAT. 8 by the template 'for every input the law returns true; each argument reads behind the call as it read before'; 0 by the template 'total and deterministic' (their statements: YtlpjglcnbjbpcaaTotals.lean).
  GIVEN WITH THE SEED: the statements are not yours to turn. If you find one false, say at which input.
  Laid BY PROGRAM, IN A SANDBOX (cutbox-rows.mjs): the forced cells as the released guide's own fill.sh prints them over the translation 7c70f712ef3864a3… (all of the seat's roots in one cut). By AI agents, Wed Nov 11 2026. No macro, syntax, notation, axiom, sorry.
-/
import Derived.Test.YtlpjglcnbjbpcaaChecked
import GoSem.Claim
import GoSem.ClaimJoined
import GoSem.ClaimMapViews
import Derived.JoinedTies
import Derived.KernelRfl
namespace Go.Proofs.Ytlpjglcnbjbpcaa
/- THE CELL 'sum', in the pinned program and in every row, IS THE sha256 OF THE DUMP (.gsa) THAT YtlpjglcnbjbpcaaProg.lean LOADS. Nothing in Lean hashes anything: it is a label: what it is worth is what the hold of that sum in a sandbox is worth. -/
noncomputable def Try.pinned : Pinned := { name := "ytlpjglcnbjbpcaa", sum := "7c70f712ef3864a3b5abf8653be9d29d5b1fb9177e4855e253ad778446cc9925", checked := Try.checked }
namespace Rows
def none {H : Type} : Left H := { results := [], args := [] }

/-- 'tidemarklaw17.WindowTakes': WHATEVER THE INPUT: true; the input reads as it did. -/
def windowTakesSpec : ChangeSpec := { name := "windowTakes", fn := fun _ => fun
  | [d] => { results := [.lit (.bool true)], args := [d] }
  | _ => none }
def windowTakesRow : OpenClaim := { program := "ytlpjglcnbjbpcaa", sum := "7c70f712ef3864a3b5abf8653be9d29d5b1fb9177e4855e253ad778446cc9925", func := "tidemark/tidemarklaw17.WindowTakes", spec := "windowTakes", apart := false }
def WindowTakesSaid : Prop := windowTakesRow.holds Try.pinned (OpenSpec.ofChange windowTakesSpec)

/-- ITS FALSE NEIGHBOUR: 'it returns false'. Refute it at one input. -/
def windowTakesWrong : ChangeSpec := { name := "windowTakes", fn := fun _ => fun
  | [d] => { results := [.lit (.bool false)], args := [d] }
  | _ => none }
def WindowTakesWrongFalsely : Prop := windowTakesRow.holds Try.pinned (OpenSpec.ofChange windowTakesWrong)

/-- 'tidemarklaw17.WindowTimes': WHATEVER THE INPUT: true; the input reads as it did. -/
def windowTimesSpec : ChangeSpec := { name := "windowTimes", fn := fun _ => fun
  | [d1, d2] => { results := [.lit (.bool true)], args := [d1, d2] }
  | _ => none }
def windowTimesRow : OpenClaim := { program := "ytlpjglcnbjbpcaa", sum := "7c70f712ef3864a3b5abf8653be9d29d5b1fb9177e4855e253ad778446cc9925", func := "tidemark/tidemarklaw17.WindowTimes", spec := "windowTimes", apart := false }
def WindowTimesSaid : Prop := windowTimesRow.holds Try.pinned (OpenSpec.ofChange windowTimesSpec)

/-- ITS FALSE NEIGHBOUR: 'it returns false'. Refute it at one input. -/
def windowTimesWrong : ChangeSpec := { name := "windowTimes", fn := fun _ => fun
  | [d1, d2] => { results := [.lit (.bool false)], args := [d1, d2] }
  | _ => none }
def WindowTimesWrongFalsely : Prop := windowTimesRow.holds Try.pinned (OpenSpec.ofChange windowTimesWrong)

/-- 'tidemarklaw17.WindowFar': WHATEVER THE INPUT: true; the input reads as it did. -/
def windowFarSpec : ChangeSpec := { name := "windowFar", fn := fun _ => fun
  | [d1, d2] => { results := [.lit (.bool true)], args := [d1, d2] }
  | _ => none }
def windowFarRow : OpenClaim := { program := "ytlpjglcnbjbpcaa", sum := "7c70f712ef3864a3b5abf8653be9d29d5b1fb9177e4855e253ad778446cc9925", func := "tidemark/tidemarklaw17.WindowFar", spec := "windowFar", apart := false }
def WindowFarSaid : Prop := windowFarRow.holds Try.pinned (OpenSpec.ofChange windowFarSpec)

/-- ITS FALSE NEIGHBOUR: 'it returns false'. Refute it at one input. -/
def windowFarWrong : ChangeSpec := { name := "windowFar", fn := fun _ => fun
  | [d1, d2] => { results := [.lit (.bool false)], args := [d1, d2] }
  | _ => none }
def WindowFarWrongFalsely : Prop := windowFarRow.holds Try.pinned (OpenSpec.ofChange windowFarWrong)

/-- 'tidemarklaw17.WindowPlays': WHATEVER THE INPUT: true; the input reads as it did. -/
def windowPlaysSpec : ChangeSpec := { name := "windowPlays", fn := fun _ => fun
  | [d1, d2] => { results := [.lit (.bool true)], args := [d1, d2] }
  | _ => none }
def windowPlaysRow : OpenClaim := { program := "ytlpjglcnbjbpcaa", sum := "7c70f712ef3864a3b5abf8653be9d29d5b1fb9177e4855e253ad778446cc9925", func := "tidemark/tidemarklaw17.WindowPlays", spec := "windowPlays", apart := false }
def WindowPlaysSaid : Prop := windowPlaysRow.holds Try.pinned (OpenSpec.ofChange windowPlaysSpec)

/-- ITS FALSE NEIGHBOUR: 'it returns false'. Refute it at one input. -/
def windowPlaysWrong : ChangeSpec := { name := "windowPlays", fn := fun _ => fun
  | [d1, d2] => { results := [.lit (.bool false)], args := [d1, d2] }
  | _ => none }
def WindowPlaysWrongFalsely : Prop := windowPlaysRow.holds Try.pinned (OpenSpec.ofChange windowPlaysWrong)

/-- 'tidemarklaw17.WindowLossy': WHATEVER THE INPUT: true; the input reads as it did. -/
def windowLossySpec : ChangeSpec := { name := "windowLossy", fn := fun _ => fun
  | [d1, d2, d3] => { results := [.lit (.bool true)], args := [d1, d2, d3] }
  | _ => none }
def windowLossyRow : OpenClaim := { program := "ytlpjglcnbjbpcaa", sum := "7c70f712ef3864a3b5abf8653be9d29d5b1fb9177e4855e253ad778446cc9925", func := "tidemark/tidemarklaw17.WindowLossy", spec := "windowLossy", apart := false }
def WindowLossySaid : Prop := windowLossyRow.holds Try.pinned (OpenSpec.ofChange windowLossySpec)

/-- ITS FALSE NEIGHBOUR: 'it returns false'. Refute it at one input. -/
def windowLossyWrong : ChangeSpec := { name := "windowLossy", fn := fun _ => fun
  | [d1, d2, d3] => { results := [.lit (.bool false)], args := [d1, d2, d3] }
  | _ => none }
def WindowLossyWrongFalsely : Prop := windowLossyRow.holds Try.pinned (OpenSpec.ofChange windowLossyWrong)

/-- 'tidemarklaw17.WindowAcks': WHATEVER THE INPUT: true; the input reads as it did. -/
def windowAcksSpec : ChangeSpec := { name := "windowAcks", fn := fun _ => fun
  | [d1, d2] => { results := [.lit (.bool true)], args := [d1, d2] }
  | _ => none }
def windowAcksRow : OpenClaim := { program := "ytlpjglcnbjbpcaa", sum := "7c70f712ef3864a3b5abf8653be9d29d5b1fb9177e4855e253ad778446cc9925", func := "tidemark/tidemarklaw17.WindowAcks", spec := "windowAcks", apart := false }
def WindowAcksSaid : Prop := windowAcksRow.holds Try.pinned (OpenSpec.ofChange windowAcksSpec)

/-- ITS FALSE NEIGHBOUR: 'it returns false'. Refute it at one input. -/
def windowAcksWrong : ChangeSpec := { name := "windowAcks", fn := fun _ => fun
  | [d1, d2] => { results := [.lit (.bool false)], args := [d1, d2] }
  | _ => none }
def WindowAcksWrongFalsely : Prop := windowAcksRow.holds Try.pinned (OpenSpec.ofChange windowAcksWrong)

/-- 'tidemarklaw17.WindowRoom': WHATEVER THE INPUT: true; the input reads as it did. -/
def windowRoomSpec : ChangeSpec := { name := "windowRoom", fn := fun _ => fun
  | [d1, d2] => { results := [.lit (.bool true)], args := [d1, d2] }
  | _ => none }
def windowRoomRow : OpenClaim := { program := "ytlpjglcnbjbpcaa", sum := "7c70f712ef3864a3b5abf8653be9d29d5b1fb9177e4855e253ad778446cc9925", func := "tidemark/tidemarklaw17.WindowRoom", spec := "windowRoom", apart := false }
def WindowRoomSaid : Prop := windowRoomRow.holds Try.pinned (OpenSpec.ofChange windowRoomSpec)

/-- ITS FALSE NEIGHBOUR: 'it returns false'. Refute it at one input. -/
def windowRoomWrong : ChangeSpec := { name := "windowRoom", fn := fun _ => fun
  | [d1, d2] => { results := [.lit (.bool false)], args := [d1, d2] }
  | _ => none }
def WindowRoomWrongFalsely : Prop := windowRoomRow.holds Try.pinned (OpenSpec.ofChange windowRoomWrong)

/-- 'tidemarklaw17.WindowOrder': WHATEVER THE INPUT: true; the input reads as it did. -/
def windowOrderSpec : ChangeSpec := { name := "windowOrder", fn := fun _ => fun
  | [d1, d2] => { results := [.lit (.bool true)], args := [d1, d2] }
  | _ => none }
def windowOrderRow : OpenClaim := { program := "ytlpjglcnbjbpcaa", sum := "7c70f712ef3864a3b5abf8653be9d29d5b1fb9177e4855e253ad778446cc9925", func := "tidemark/tidemarklaw17.WindowOrder", spec := "windowOrder", apart := false }
def WindowOrderSaid : Prop := windowOrderRow.holds Try.pinned (OpenSpec.ofChange windowOrderSpec)

/-- ITS FALSE NEIGHBOUR: 'it returns false'. Refute it at one input. -/
def windowOrderWrong : ChangeSpec := { name := "windowOrder", fn := fun _ => fun
  | [d1, d2] => { results := [.lit (.bool false)], args := [d1, d2] }
  | _ => none }
def WindowOrderWrongFalsely : Prop := windowOrderRow.holds Try.pinned (OpenSpec.ofChange windowOrderWrong)

/- THE SECOND FORM. 'bulk': how many values and letters a reading holds, each counted each time it is reached (what is shared counts as often as it is met; a slice's spare places count too). A statement '..UptoSaid' is the law's where the arguments, and the package variables that the reading takes, are together of bulk at most 1048576: NARROWER than '..Said'. Prove '..Said' where nothing that the law and all that it calls make is longer than what came in: it says more and counts as full. Else prove '..UptoSaid'. A law counts once. -/
mutual
def uptoBulk {H : Type} : DataW H → Nat
  | .lit (.string bytes) => bytes.length + 1
  | .lit _ => 1
  | .nil => 1
  | .ptr d => uptoBulk d + 1
  | .slice elems spare => uptoBulkAll elems + uptoBulkAll spare + 1
  | .agg parts => uptoBulkAll parts + 1
  | .iface _ d => uptoBulk d + 1
  | .map entries => uptoBulkEntries entries + 1
  | .held _ => 1
def uptoBulkAll {H : Type} : List (DataW H) → Nat
  | [] => 0
  | d :: r => uptoBulk d + uptoBulkAll r
def uptoBulkEntries {H : Type} : List (Lit × DataW H) → Nat
  | [] => 0
  | x :: r => uptoBulkEntry x + uptoBulkEntries r
def uptoBulkEntry {H : Type} : Lit × DataW H → Nat
  | (.string bytes, d) => bytes.length + uptoBulk d + 1
  | (_, d) => uptoBulk d + 1
 end
def uptoSmall : (H : Type) → List (DataW H) → Bool := fun _ ds => decide (uptoBulkAll ds ≤ 1048576)
def OpenSpec.upto (s : _root_.Go.ChangeSpec) : _root_.Go.OpenSpec := { _root_.Go.OpenSpec.ofChange s with cond := some uptoSmall }

/-- 'tidemarklaw17.WindowTakes', WHERE WHAT IT READS IS OF BULK AT MOST 1048576: true; the input reads as it did. -/
def windowTakesUptoRow : OpenClaim := { program := "ytlpjglcnbjbpcaa", sum := "7c70f712ef3864a3b5abf8653be9d29d5b1fb9177e4855e253ad778446cc9925", func := "tidemark/tidemarklaw17.WindowTakes", spec := "windowTakes", apart := false, narrowed := true }
def WindowTakesUptoSaid : Prop := windowTakesUptoRow.holds Try.pinned (OpenSpec.upto windowTakesSpec)

/-- 'tidemarklaw17.WindowTimes', WHERE WHAT IT READS IS OF BULK AT MOST 1048576: true; the input reads as it did. -/
def windowTimesUptoRow : OpenClaim := { program := "ytlpjglcnbjbpcaa", sum := "7c70f712ef3864a3b5abf8653be9d29d5b1fb9177e4855e253ad778446cc9925", func := "tidemark/tidemarklaw17.WindowTimes", spec := "windowTimes", apart := false, narrowed := true }
def WindowTimesUptoSaid : Prop := windowTimesUptoRow.holds Try.pinned (OpenSpec.upto windowTimesSpec)

/-- 'tidemarklaw17.WindowFar', WHERE WHAT IT READS IS OF BULK AT MOST 1048576: true; the input reads as it did. -/
def windowFarUptoRow : OpenClaim := { program := "ytlpjglcnbjbpcaa", sum := "7c70f712ef3864a3b5abf8653be9d29d5b1fb9177e4855e253ad778446cc9925", func := "tidemark/tidemarklaw17.WindowFar", spec := "windowFar", apart := false, narrowed := true }
def WindowFarUptoSaid : Prop := windowFarUptoRow.holds Try.pinned (OpenSpec.upto windowFarSpec)

/-- 'tidemarklaw17.WindowPlays', WHERE WHAT IT READS IS OF BULK AT MOST 1048576: true; the input reads as it did. -/
def windowPlaysUptoRow : OpenClaim := { program := "ytlpjglcnbjbpcaa", sum := "7c70f712ef3864a3b5abf8653be9d29d5b1fb9177e4855e253ad778446cc9925", func := "tidemark/tidemarklaw17.WindowPlays", spec := "windowPlays", apart := false, narrowed := true }
def WindowPlaysUptoSaid : Prop := windowPlaysUptoRow.holds Try.pinned (OpenSpec.upto windowPlaysSpec)

/-- 'tidemarklaw17.WindowLossy', WHERE WHAT IT READS IS OF BULK AT MOST 1048576: true; the input reads as it did. -/
def windowLossyUptoRow : OpenClaim := { program := "ytlpjglcnbjbpcaa", sum := "7c70f712ef3864a3b5abf8653be9d29d5b1fb9177e4855e253ad778446cc9925", func := "tidemark/tidemarklaw17.WindowLossy", spec := "windowLossy", apart := false, narrowed := true }
def WindowLossyUptoSaid : Prop := windowLossyUptoRow.holds Try.pinned (OpenSpec.upto windowLossySpec)

/-- 'tidemarklaw17.WindowAcks', WHERE WHAT IT READS IS OF BULK AT MOST 1048576: true; the input reads as it did. -/
def windowAcksUptoRow : OpenClaim := { program := "ytlpjglcnbjbpcaa", sum := "7c70f712ef3864a3b5abf8653be9d29d5b1fb9177e4855e253ad778446cc9925", func := "tidemark/tidemarklaw17.WindowAcks", spec := "windowAcks", apart := false, narrowed := true }
def WindowAcksUptoSaid : Prop := windowAcksUptoRow.holds Try.pinned (OpenSpec.upto windowAcksSpec)

/-- 'tidemarklaw17.WindowRoom', WHERE WHAT IT READS IS OF BULK AT MOST 1048576: true; the input reads as it did. -/
def windowRoomUptoRow : OpenClaim := { program := "ytlpjglcnbjbpcaa", sum := "7c70f712ef3864a3b5abf8653be9d29d5b1fb9177e4855e253ad778446cc9925", func := "tidemark/tidemarklaw17.WindowRoom", spec := "windowRoom", apart := false, narrowed := true }
def WindowRoomUptoSaid : Prop := windowRoomUptoRow.holds Try.pinned (OpenSpec.upto windowRoomSpec)

/-- 'tidemarklaw17.WindowOrder', WHERE WHAT IT READS IS OF BULK AT MOST 1048576: true; the input reads as it did. -/
def windowOrderUptoRow : OpenClaim := { program := "ytlpjglcnbjbpcaa", sum := "7c70f712ef3864a3b5abf8653be9d29d5b1fb9177e4855e253ad778446cc9925", func := "tidemark/tidemarklaw17.WindowOrder", spec := "windowOrder", apart := false, narrowed := true }
def WindowOrderUptoSaid : Prop := windowOrderUptoRow.holds Try.pinned (OpenSpec.upto windowOrderSpec)

end Rows
end Go.Proofs.Ytlpjglcnbjbpcaa
