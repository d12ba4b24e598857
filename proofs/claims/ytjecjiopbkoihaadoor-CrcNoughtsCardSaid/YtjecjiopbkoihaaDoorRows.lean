/-
  NARROWER THAN 'FOR EVERY INPUT', by the rows' own cells (each row's printed sentence says how): CrcTells: laid · CrcJoins: laid · CrcFar: laid · CrcBursts: laid · CrcLinear: laid · CrcEnds: laid · CrcNoughts: laid.
  DERIVED. THE GIVEN ROWS OF THIS SEAT. 7 by the template 'for every input the law returns true; each argument reads behind the call as it read before'; 0 by the template 'total and deterministic' (their statements: YtjecjiopbkoihaaDoorTotals.lean).
  GIVEN WITH THE SEED: the statements are not yours to turn. If you find one false, say at which input.
  Laid BY PROGRAM, IN A SANDBOX (cutbox-rows.mjs): the forced cells as the released guide's own fill.sh prints them over the translation 9bfd9fb1fe00e49d… (all of the seat's roots in one cut). By AI agents, Wed Nov 11 2026. No macro, syntax, notation, axiom, sorry.
-/
import Derived.Test.YtjecjiopbkoihaaDoorChecked
import GoSem.Claim
import GoSem.ClaimJoined
import GoSem.ClaimMapViews
import Derived.JoinedTies
import Derived.KernelRfl
namespace Go.Proofs.YtjecjiopbkoihaaDoor
/- THE CELL 'sum', in the pinned program and in every row, IS THE sha256 OF THE DUMP (.gsa) THAT YtjecjiopbkoihaaDoorProg.lean LOADS. Nothing in Lean hashes anything: it is a label: what it is worth is what the hold of that sum in a sandbox is worth. -/
noncomputable def Tryd.pinned : Pinned := { name := "ytjecjiopbkoihaadoor", sum := "9bfd9fb1fe00e49d333ee887748cbc16a6eea177b26c7e5525de75b16e5c94ba", checked := Tryd.checked }
namespace Rows
def none {H : Type} : Left H := { results := [], args := [] }

/- WHAT THE LISTED PACKAGE-LEVEL VARIABLES READ AS WHEN THE CALL BEGINS. Each datum BY PROGRAM (the guide's laid-datum.mjs) off the statement by which the dump's own 'gosem.cut.vars' lays the variable. In a bare row this is a premise. The card (YtjecjiopbkoihaaDoorCards.lean) ties it to the program's text. -/
def laid_tidemark_crc_halves {H : Type} : DataW H := .agg [.lit (.int .u32 0), .lit (.int .u32 498536548), .lit (.int .u32 997073096), .lit (.int .u32 651767980), .lit (.int .u32 1994146192), .lit (.int .u32 1802195444), .lit (.int .u32 1303535960), .lit (.int .u32 1342533948), .lit (.int .u32 3988292384), .lit (.int .u32 4027552580), .lit (.int .u32 3604390888), .lit (.int .u32 3412177804), .lit (.int .u32 2607071920), .lit (.int .u32 2262029012), .lit (.int .u32 2685067896), .lit (.int .u32 3183342108)]

/-- 'tidemarklaw02.CrcTells': WHATEVER THE INPUT: true; the input reads as it did. -/
def crcTellsSpec : ChangeSpec := { name := "crcTells", fn := fun _ => fun
  | [d1, d2, d3, d4] => { results := [.lit (.bool true)], args := [d1, d2, d3, d4] }
  | _ => none }
def crcTellsRow : OpenClaim := { program := "ytjecjiopbkoihaadoor", sum := "9bfd9fb1fe00e49d333ee887748cbc16a6eea177b26c7e5525de75b16e5c94ba", func := "tidemark/tidemarklaw02.CrcTells", spec := "crcTells", named := ["tidemark/crc.halves"], apart := false, laid := [("tidemark/crc.halves", laid_tidemark_crc_halves)] }
def CrcTellsSaid : Prop := crcTellsRow.holds Tryd.pinned (OpenSpec.ofChange crcTellsSpec)

/-- ITS FALSE NEIGHBOUR: 'it returns false'. Refute it at one input. -/
def crcTellsWrong : ChangeSpec := { name := "crcTells", fn := fun _ => fun
  | [d1, d2, d3, d4] => { results := [.lit (.bool false)], args := [d1, d2, d3, d4] }
  | _ => none }
def CrcTellsWrongFalsely : Prop := crcTellsRow.holds Tryd.pinned (OpenSpec.ofChange crcTellsWrong)

/-- 'tidemarklaw02.CrcJoins': WHATEVER THE INPUT: true; the input reads as it did. -/
def crcJoinsSpec : ChangeSpec := { name := "crcJoins", fn := fun _ => fun
  | [d1, d2, d3] => { results := [.lit (.bool true)], args := [d1, d2, d3] }
  | _ => none }
def crcJoinsRow : OpenClaim := { program := "ytjecjiopbkoihaadoor", sum := "9bfd9fb1fe00e49d333ee887748cbc16a6eea177b26c7e5525de75b16e5c94ba", func := "tidemark/tidemarklaw02.CrcJoins", spec := "crcJoins", named := ["tidemark/crc.halves"], apart := false, laid := [("tidemark/crc.halves", laid_tidemark_crc_halves)] }
def CrcJoinsSaid : Prop := crcJoinsRow.holds Tryd.pinned (OpenSpec.ofChange crcJoinsSpec)

/-- ITS FALSE NEIGHBOUR: 'it returns false'. Refute it at one input. -/
def crcJoinsWrong : ChangeSpec := { name := "crcJoins", fn := fun _ => fun
  | [d1, d2, d3] => { results := [.lit (.bool false)], args := [d1, d2, d3] }
  | _ => none }
def CrcJoinsWrongFalsely : Prop := crcJoinsRow.holds Tryd.pinned (OpenSpec.ofChange crcJoinsWrong)

/-- 'tidemarklaw02.CrcFar': WHATEVER THE INPUT: true; the input reads as it did. -/
def crcFarSpec : ChangeSpec := { name := "crcFar", fn := fun _ => fun
  | [d1, d2, d3, d4] => { results := [.lit (.bool true)], args := [d1, d2, d3, d4] }
  | _ => none }
def crcFarRow : OpenClaim := { program := "ytjecjiopbkoihaadoor", sum := "9bfd9fb1fe00e49d333ee887748cbc16a6eea177b26c7e5525de75b16e5c94ba", func := "tidemark/tidemarklaw02.CrcFar", spec := "crcFar", named := ["tidemark/crc.halves"], apart := false, laid := [("tidemark/crc.halves", laid_tidemark_crc_halves)] }
def CrcFarSaid : Prop := crcFarRow.holds Tryd.pinned (OpenSpec.ofChange crcFarSpec)

/-- ITS FALSE NEIGHBOUR: 'it returns false'. Refute it at one input. -/
def crcFarWrong : ChangeSpec := { name := "crcFar", fn := fun _ => fun
  | [d1, d2, d3, d4] => { results := [.lit (.bool false)], args := [d1, d2, d3, d4] }
  | _ => none }
def CrcFarWrongFalsely : Prop := crcFarRow.holds Tryd.pinned (OpenSpec.ofChange crcFarWrong)

/-- 'tidemarklaw02.CrcBursts': WHATEVER THE INPUT: true; the input reads as it did. -/
def crcBurstsSpec : ChangeSpec := { name := "crcBursts", fn := fun _ => fun
  | [d1, d2, d3] => { results := [.lit (.bool true)], args := [d1, d2, d3] }
  | _ => none }
def crcBurstsRow : OpenClaim := { program := "ytjecjiopbkoihaadoor", sum := "9bfd9fb1fe00e49d333ee887748cbc16a6eea177b26c7e5525de75b16e5c94ba", func := "tidemark/tidemarklaw02.CrcBursts", spec := "crcBursts", named := ["tidemark/crc.halves"], apart := false, laid := [("tidemark/crc.halves", laid_tidemark_crc_halves)] }
def CrcBurstsSaid : Prop := crcBurstsRow.holds Tryd.pinned (OpenSpec.ofChange crcBurstsSpec)

/-- ITS FALSE NEIGHBOUR: 'it returns false'. Refute it at one input. -/
def crcBurstsWrong : ChangeSpec := { name := "crcBursts", fn := fun _ => fun
  | [d1, d2, d3] => { results := [.lit (.bool false)], args := [d1, d2, d3] }
  | _ => none }
def CrcBurstsWrongFalsely : Prop := crcBurstsRow.holds Tryd.pinned (OpenSpec.ofChange crcBurstsWrong)

/-- 'tidemarklaw02.CrcLinear': WHATEVER THE INPUT: true; the input reads as it did. -/
def crcLinearSpec : ChangeSpec := { name := "crcLinear", fn := fun _ => fun
  | [d1, d2, d3] => { results := [.lit (.bool true)], args := [d1, d2, d3] }
  | _ => none }
def crcLinearRow : OpenClaim := { program := "ytjecjiopbkoihaadoor", sum := "9bfd9fb1fe00e49d333ee887748cbc16a6eea177b26c7e5525de75b16e5c94ba", func := "tidemark/tidemarklaw02.CrcLinear", spec := "crcLinear", named := ["tidemark/crc.halves"], apart := false, laid := [("tidemark/crc.halves", laid_tidemark_crc_halves)] }
def CrcLinearSaid : Prop := crcLinearRow.holds Tryd.pinned (OpenSpec.ofChange crcLinearSpec)

/-- ITS FALSE NEIGHBOUR: 'it returns false'. Refute it at one input. -/
def crcLinearWrong : ChangeSpec := { name := "crcLinear", fn := fun _ => fun
  | [d1, d2, d3] => { results := [.lit (.bool false)], args := [d1, d2, d3] }
  | _ => none }
def CrcLinearWrongFalsely : Prop := crcLinearRow.holds Tryd.pinned (OpenSpec.ofChange crcLinearWrong)

/-- 'tidemarklaw02.CrcEnds': WHATEVER THE INPUT: true; the input reads as it did. -/
def crcEndsSpec : ChangeSpec := { name := "crcEnds", fn := fun _ => fun
  | [d] => { results := [.lit (.bool true)], args := [d] }
  | _ => none }
def crcEndsRow : OpenClaim := { program := "ytjecjiopbkoihaadoor", sum := "9bfd9fb1fe00e49d333ee887748cbc16a6eea177b26c7e5525de75b16e5c94ba", func := "tidemark/tidemarklaw02.CrcEnds", spec := "crcEnds", named := ["tidemark/crc.halves"], apart := false, laid := [("tidemark/crc.halves", laid_tidemark_crc_halves)] }
def CrcEndsSaid : Prop := crcEndsRow.holds Tryd.pinned (OpenSpec.ofChange crcEndsSpec)

/-- ITS FALSE NEIGHBOUR: 'it returns false'. Refute it at one input. -/
def crcEndsWrong : ChangeSpec := { name := "crcEnds", fn := fun _ => fun
  | [d] => { results := [.lit (.bool false)], args := [d] }
  | _ => none }
def CrcEndsWrongFalsely : Prop := crcEndsRow.holds Tryd.pinned (OpenSpec.ofChange crcEndsWrong)

/-- 'tidemarklaw02.CrcNoughts': WHATEVER THE INPUT: true; the input reads as it did. -/
def crcNoughtsSpec : ChangeSpec := { name := "crcNoughts", fn := fun _ => fun
  | [d1, d2] => { results := [.lit (.bool true)], args := [d1, d2] }
  | _ => none }
def crcNoughtsRow : OpenClaim := { program := "ytjecjiopbkoihaadoor", sum := "9bfd9fb1fe00e49d333ee887748cbc16a6eea177b26c7e5525de75b16e5c94ba", func := "tidemark/tidemarklaw02.CrcNoughts", spec := "crcNoughts", named := ["tidemark/crc.halves"], apart := false, laid := [("tidemark/crc.halves", laid_tidemark_crc_halves)] }
def CrcNoughtsSaid : Prop := crcNoughtsRow.holds Tryd.pinned (OpenSpec.ofChange crcNoughtsSpec)

/-- ITS FALSE NEIGHBOUR: 'it returns false'. Refute it at one input. -/
def crcNoughtsWrong : ChangeSpec := { name := "crcNoughts", fn := fun _ => fun
  | [d1, d2] => { results := [.lit (.bool false)], args := [d1, d2] }
  | _ => none }
def CrcNoughtsWrongFalsely : Prop := crcNoughtsRow.holds Tryd.pinned (OpenSpec.ofChange crcNoughtsWrong)

/- THE SECOND FORM. 'bulk': how many values and letters a reading holds, each counted each time it is reached (what is shared counts as often as it is met; a slice's spare places count too). A statement '..UptoSaid' is the law's where the arguments, and the package variables that the reading takes, are together of bulk at most 1048576: NARROWER than '..Said'. Prove '..Said' where nothing that the law and all that it calls make is longer than what came in: it says more and counts as full. Else prove '..UptoSaid'. A law counts once. -/
mutual
def uptoBulk {H : Type} : DataW H → Nat
  | .lit (.string bytes) => bytes.length + 1
  | .lit _ => 1
  | .nil => 1
  | .ptr d => uptoBulk d + 1
  | .slice elems spare => uptoBulkAll elems + uptoBulkAll spare + 1
  | .agg parts => uptoBulkAll parts + 1
  | .iface _ d => uptoBulk d + 1
  | .map entries => uptoBulkEntries entries + 1
  | .held _ => 1
def uptoBulkAll {H : Type} : List (DataW H) → Nat
  | [] => 0
  | d :: r => uptoBulk d + uptoBulkAll r
def uptoBulkEntries {H : Type} : List (Lit × DataW H) → Nat
  | [] => 0
  | x :: r => uptoBulkEntry x + uptoBulkEntries r
def uptoBulkEntry {H : Type} : Lit × DataW H → Nat
  | (.string bytes, d) => bytes.length + uptoBulk d + 1
  | (_, d) => uptoBulk d + 1
 end
def uptoSmall : (H : Type) → List (DataW H) → Bool := fun _ ds => decide (uptoBulkAll ds ≤ 1048576)
def OpenSpec.upto (s : _root_.Go.ChangeSpec) : _root_.Go.OpenSpec := { _root_.Go.OpenSpec.ofChange s with cond := some uptoSmall }

/-- 'tidemarklaw02.CrcTells', WHERE WHAT IT READS IS OF BULK AT MOST 1048576: true; the input reads as it did. -/
def crcTellsUptoRow : OpenClaim := { program := "ytjecjiopbkoihaadoor", sum := "9bfd9fb1fe00e49d333ee887748cbc16a6eea177b26c7e5525de75b16e5c94ba", func := "tidemark/tidemarklaw02.CrcTells", spec := "crcTells", named := ["tidemark/crc.halves"], apart := false, laid := [("tidemark/crc.halves", laid_tidemark_crc_halves)], narrowed := true }
def CrcTellsUptoSaid : Prop := crcTellsUptoRow.holds Tryd.pinned (OpenSpec.upto crcTellsSpec)

/-- 'tidemarklaw02.CrcJoins', WHERE WHAT IT READS IS OF BULK AT MOST 1048576: true; the input reads as it did. -/
def crcJoinsUptoRow : OpenClaim := { program := "ytjecjiopbkoihaadoor", sum := "9bfd9fb1fe00e49d333ee887748cbc16a6eea177b26c7e5525de75b16e5c94ba", func := "tidemark/tidemarklaw02.CrcJoins", spec := "crcJoins", named := ["tidemark/crc.halves"], apart := false, laid := [("tidemark/crc.halves", laid_tidemark_crc_halves)], narrowed := true }
def CrcJoinsUptoSaid : Prop := crcJoinsUptoRow.holds Tryd.pinned (OpenSpec.upto crcJoinsSpec)

/-- 'tidemarklaw02.CrcFar', WHERE WHAT IT READS IS OF BULK AT MOST 1048576: true; the input reads as it did. -/
def crcFarUptoRow : OpenClaim := { program := "ytjecjiopbkoihaadoor", sum := "9bfd9fb1fe00e49d333ee887748cbc16a6eea177b26c7e5525de75b16e5c94ba", func := "tidemark/tidemarklaw02.CrcFar", spec := "crcFar", named := ["tidemark/crc.halves"], apart := false, laid := [("tidemark/crc.halves", laid_tidemark_crc_halves)], narrowed := true }
def CrcFarUptoSaid : Prop := crcFarUptoRow.holds Tryd.pinned (OpenSpec.upto crcFarSpec)

/-- 'tidemarklaw02.CrcBursts', WHERE WHAT IT READS IS OF BULK AT MOST 1048576: true; the input reads as it did. -/
def crcBurstsUptoRow : OpenClaim := { program := "ytjecjiopbkoihaadoor", sum := "9bfd9fb1fe00e49d333ee887748cbc16a6eea177b26c7e5525de75b16e5c94ba", func := "tidemark/tidemarklaw02.CrcBursts", spec := "crcBursts", named := ["tidemark/crc.halves"], apart := false, laid := [("tidemark/crc.halves", laid_tidemark_crc_halves)], narrowed := true }
def CrcBurstsUptoSaid : Prop := crcBurstsUptoRow.holds Tryd.pinned (OpenSpec.upto crcBurstsSpec)

/-- 'tidemarklaw02.CrcLinear', WHERE WHAT IT READS IS OF BULK AT MOST 1048576: true; the input reads as it did. -/
def crcLinearUptoRow : OpenClaim := { program := "ytjecjiopbkoihaadoor", sum := "9bfd9fb1fe00e49d333ee887748cbc16a6eea177b26c7e5525de75b16e5c94ba", func := "tidemark/tidemarklaw02.CrcLinear", spec := "crcLinear", named := ["tidemark/crc.halves"], apart := false, laid := [("tidemark/crc.halves", laid_tidemark_crc_halves)], narrowed := true }
def CrcLinearUptoSaid : Prop := crcLinearUptoRow.holds Tryd.pinned (OpenSpec.upto crcLinearSpec)

/-- 'tidemarklaw02.CrcEnds', WHERE WHAT IT READS IS OF BULK AT MOST 1048576: true; the input reads as it did. -/
def crcEndsUptoRow : OpenClaim := { program := "ytjecjiopbkoihaadoor", sum := "9bfd9fb1fe00e49d333ee887748cbc16a6eea177b26c7e5525de75b16e5c94ba", func := "tidemark/tidemarklaw02.CrcEnds", spec := "crcEnds", named := ["tidemark/crc.halves"], apart := false, laid := [("tidemark/crc.halves", laid_tidemark_crc_halves)], narrowed := true }
def CrcEndsUptoSaid : Prop := crcEndsUptoRow.holds Tryd.pinned (OpenSpec.upto crcEndsSpec)

/-- 'tidemarklaw02.CrcNoughts', WHERE WHAT IT READS IS OF BULK AT MOST 1048576: true; the input reads as it did. -/
def crcNoughtsUptoRow : OpenClaim := { program := "ytjecjiopbkoihaadoor", sum := "9bfd9fb1fe00e49d333ee887748cbc16a6eea177b26c7e5525de75b16e5c94ba", func := "tidemark/tidemarklaw02.CrcNoughts", spec := "crcNoughts", named := ["tidemark/crc.halves"], apart := false, laid := [("tidemark/crc.halves", laid_tidemark_crc_halves)], narrowed := true }
def CrcNoughtsUptoSaid : Prop := crcNoughtsUptoRow.holds Tryd.pinned (OpenSpec.upto crcNoughtsSpec)

end Rows
end Go.Proofs.YtjecjiopbkoihaaDoor
