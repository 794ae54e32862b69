/-
  No cell of these rows narrows 'for every input' (looked for: loops, veiled, ifaces, maps, wideKeys, modest, calm, conditions, laid).
  DERIVED. THE GIVEN ROWS OF THIS SEAT. 14 by the template 'for every input the law returns true; each argument reads behind the call as it read before'; 0 by the template 'total and deterministic' (their statements: YtimjllokibnibaaTotals.lean).
  GIVEN WITH THE SEED: the statements are not yours to turn. If you find one false, say at which input.
  Laid BY PROGRAM, IN A SANDBOX (cutbox-rows.mjs): the forced cells as the released guide's own fill.sh prints them over the translation 4de20e50c1163885… (all of the seat's roots in one cut). By AI agents, Wed Nov 11 2026. No macro, syntax, notation, axiom, sorry.
-/
import Derived.Test.YtimjllokibnibaaChecked
import GoSem.Claim
import GoSem.ClaimJoined
import GoSem.ClaimMapViews
import Derived.JoinedTies
import Derived.KernelRfl
namespace Go.Proofs.Ytimjllokibnibaa
/- THE CELL 'sum', in the pinned program and in every row, IS THE sha256 OF THE DUMP (.gsa) THAT YtimjllokibnibaaProg.lean LOADS. Nothing in Lean hashes anything: it is a label: what it is worth is what the hold of that sum in a sandbox is worth. -/
noncomputable def Try.pinned : Pinned := { name := "ytimjllokibnibaa", sum := "4de20e50c1163885c460abcddfef30f92e5902e8495a287f224aaccf5e43ce77", checked := Try.checked }
namespace Rows
def none {H : Type} : Left H := { results := [], args := [] }

/-- 'triviumlaw9.CrcTells': WHATEVER THE INPUT: true; the input reads as it did. -/
def crcTellsSpec : ChangeSpec := { name := "crcTells", fn := fun _ => fun
  | [d] => { results := [.lit (.bool true)], args := [d] }
  | _ => none }
def crcTellsRow : OpenClaim := { program := "ytimjllokibnibaa", sum := "4de20e50c1163885c460abcddfef30f92e5902e8495a287f224aaccf5e43ce77", func := "trivium/triviumlaw9.CrcTells", spec := "crcTells", apart := false }
def CrcTellsSaid : Prop := crcTellsRow.holds Try.pinned (OpenSpec.ofChange crcTellsSpec)

/-- ITS FALSE NEIGHBOUR: 'it returns false'. Refute it at one input. -/
def crcTellsWrong : ChangeSpec := { name := "crcTells", fn := fun _ => fun
  | [d] => { results := [.lit (.bool false)], args := [d] }
  | _ => none }
def CrcTellsWrongFalsely : Prop := crcTellsRow.holds Try.pinned (OpenSpec.ofChange crcTellsWrong)

/-- 'triviumlaw9.CrcRows': WHATEVER THE INPUT: true; the input reads as it did. -/
def crcRowsSpec : ChangeSpec := { name := "crcRows", fn := fun _ => fun
  | [d] => { results := [.lit (.bool true)], args := [d] }
  | _ => none }
def crcRowsRow : OpenClaim := { program := "ytimjllokibnibaa", sum := "4de20e50c1163885c460abcddfef30f92e5902e8495a287f224aaccf5e43ce77", func := "trivium/triviumlaw9.CrcRows", spec := "crcRows", apart := false }
def CrcRowsSaid : Prop := crcRowsRow.holds Try.pinned (OpenSpec.ofChange crcRowsSpec)

/-- ITS FALSE NEIGHBOUR: 'it returns false'. Refute it at one input. -/
def crcRowsWrong : ChangeSpec := { name := "crcRows", fn := fun _ => fun
  | [d] => { results := [.lit (.bool false)], args := [d] }
  | _ => none }
def CrcRowsWrongFalsely : Prop := crcRowsRow.holds Try.pinned (OpenSpec.ofChange crcRowsWrong)

/-- 'triviumlaw9.CrcTurned': WHATEVER THE INPUT: true; the input reads as it did. -/
def crcTurnedSpec : ChangeSpec := { name := "crcTurned", fn := fun _ => fun
  | [d1, d2, d3] => { results := [.lit (.bool true)], args := [d1, d2, d3] }
  | _ => none }
def crcTurnedRow : OpenClaim := { program := "ytimjllokibnibaa", sum := "4de20e50c1163885c460abcddfef30f92e5902e8495a287f224aaccf5e43ce77", func := "trivium/triviumlaw9.CrcTurned", spec := "crcTurned", apart := false }
def CrcTurnedSaid : Prop := crcTurnedRow.holds Try.pinned (OpenSpec.ofChange crcTurnedSpec)

/-- ITS FALSE NEIGHBOUR: 'it returns false'. Refute it at one input. -/
def crcTurnedWrong : ChangeSpec := { name := "crcTurned", fn := fun _ => fun
  | [d1, d2, d3] => { results := [.lit (.bool false)], args := [d1, d2, d3] }
  | _ => none }
def CrcTurnedWrongFalsely : Prop := crcTurnedRow.holds Try.pinned (OpenSpec.ofChange crcTurnedWrong)

/-- 'triviumlaw9.CrcSeal': WHATEVER THE INPUT: true; the input reads as it did. -/
def crcSealSpec : ChangeSpec := { name := "crcSeal", fn := fun _ => fun
  | [d] => { results := [.lit (.bool true)], args := [d] }
  | _ => none }
def crcSealRow : OpenClaim := { program := "ytimjllokibnibaa", sum := "4de20e50c1163885c460abcddfef30f92e5902e8495a287f224aaccf5e43ce77", func := "trivium/triviumlaw9.CrcSeal", spec := "crcSeal", apart := false }
def CrcSealSaid : Prop := crcSealRow.holds Try.pinned (OpenSpec.ofChange crcSealSpec)

/-- ITS FALSE NEIGHBOUR: 'it returns false'. Refute it at one input. -/
def crcSealWrong : ChangeSpec := { name := "crcSeal", fn := fun _ => fun
  | [d] => { results := [.lit (.bool false)], args := [d] }
  | _ => none }
def CrcSealWrongFalsely : Prop := crcSealRow.holds Try.pinned (OpenSpec.ofChange crcSealWrong)

/-- 'triviumlaw9.CrcEach': WHATEVER THE INPUT: true; the input reads as it did. -/
def crcEachSpec : ChangeSpec := { name := "crcEach", fn := fun _ => fun
  | [d1, d2] => { results := [.lit (.bool true)], args := [d1, d2] }
  | _ => none }
def crcEachRow : OpenClaim := { program := "ytimjllokibnibaa", sum := "4de20e50c1163885c460abcddfef30f92e5902e8495a287f224aaccf5e43ce77", func := "trivium/triviumlaw9.CrcEach", spec := "crcEach", apart := false }
def CrcEachSaid : Prop := crcEachRow.holds Try.pinned (OpenSpec.ofChange crcEachSpec)

/-- ITS FALSE NEIGHBOUR: 'it returns false'. Refute it at one input. -/
def crcEachWrong : ChangeSpec := { name := "crcEach", fn := fun _ => fun
  | [d1, d2] => { results := [.lit (.bool false)], args := [d1, d2] }
  | _ => none }
def CrcEachWrongFalsely : Prop := crcEachRow.holds Try.pinned (OpenSpec.ofChange crcEachWrong)

/-- 'triviumlaw9.CrcLinear': WHATEVER THE INPUT: true; the input reads as it did. -/
def crcLinearSpec : ChangeSpec := { name := "crcLinear", fn := fun _ => fun
  | [d1, d2, d3] => { results := [.lit (.bool true)], args := [d1, d2, d3] }
  | _ => none }
def crcLinearRow : OpenClaim := { program := "ytimjllokibnibaa", sum := "4de20e50c1163885c460abcddfef30f92e5902e8495a287f224aaccf5e43ce77", func := "trivium/triviumlaw9.CrcLinear", spec := "crcLinear", apart := false }
def CrcLinearSaid : Prop := crcLinearRow.holds Try.pinned (OpenSpec.ofChange crcLinearSpec)

/-- ITS FALSE NEIGHBOUR: 'it returns false'. Refute it at one input. -/
def crcLinearWrong : ChangeSpec := { name := "crcLinear", fn := fun _ => fun
  | [d1, d2, d3] => { results := [.lit (.bool false)], args := [d1, d2, d3] }
  | _ => none }
def CrcLinearWrongFalsely : Prop := crcLinearRow.holds Try.pinned (OpenSpec.ofChange crcLinearWrong)

/-- 'triviumlaw10.BoxPacks': WHATEVER THE INPUT: true; the input reads as it did. -/
def boxPacksSpec : ChangeSpec := { name := "boxPacks", fn := fun _ => fun
  | [d] => { results := [.lit (.bool true)], args := [d] }
  | _ => none }
def boxPacksRow : OpenClaim := { program := "ytimjllokibnibaa", sum := "4de20e50c1163885c460abcddfef30f92e5902e8495a287f224aaccf5e43ce77", func := "trivium/triviumlaw10.BoxPacks", spec := "boxPacks", apart := false }
def BoxPacksSaid : Prop := boxPacksRow.holds Try.pinned (OpenSpec.ofChange boxPacksSpec)

/-- ITS FALSE NEIGHBOUR: 'it returns false'. Refute it at one input. -/
def boxPacksWrong : ChangeSpec := { name := "boxPacks", fn := fun _ => fun
  | [d] => { results := [.lit (.bool false)], args := [d] }
  | _ => none }
def BoxPacksWrongFalsely : Prop := boxPacksRow.holds Try.pinned (OpenSpec.ofChange boxPacksWrong)

/-- 'triviumlaw10.BoxIDs': WHATEVER THE INPUT: true; the input reads as it did. -/
def boxIDsSpec : ChangeSpec := { name := "boxIDs", fn := fun _ => fun
  | [d1, d2, d3] => { results := [.lit (.bool true)], args := [d1, d2, d3] }
  | _ => none }
def boxIDsRow : OpenClaim := { program := "ytimjllokibnibaa", sum := "4de20e50c1163885c460abcddfef30f92e5902e8495a287f224aaccf5e43ce77", func := "trivium/triviumlaw10.BoxIDs", spec := "boxIDs", apart := false }
def BoxIDsSaid : Prop := boxIDsRow.holds Try.pinned (OpenSpec.ofChange boxIDsSpec)

/-- ITS FALSE NEIGHBOUR: 'it returns false'. Refute it at one input. -/
def boxIDsWrong : ChangeSpec := { name := "boxIDs", fn := fun _ => fun
  | [d1, d2, d3] => { results := [.lit (.bool false)], args := [d1, d2, d3] }
  | _ => none }
def BoxIDsWrongFalsely : Prop := boxIDsRow.holds Try.pinned (OpenSpec.ofChange boxIDsWrong)

/-- 'triviumlaw10.BoxTakes': WHATEVER THE INPUT: true; the input reads as it did. -/
def boxTakesSpec : ChangeSpec := { name := "boxTakes", fn := fun _ => fun
  | [d] => { results := [.lit (.bool true)], args := [d] }
  | _ => none }
def boxTakesRow : OpenClaim := { program := "ytimjllokibnibaa", sum := "4de20e50c1163885c460abcddfef30f92e5902e8495a287f224aaccf5e43ce77", func := "trivium/triviumlaw10.BoxTakes", spec := "boxTakes", apart := false }
def BoxTakesSaid : Prop := boxTakesRow.holds Try.pinned (OpenSpec.ofChange boxTakesSpec)

/-- ITS FALSE NEIGHBOUR: 'it returns false'. Refute it at one input. -/
def boxTakesWrong : ChangeSpec := { name := "boxTakes", fn := fun _ => fun
  | [d] => { results := [.lit (.bool false)], args := [d] }
  | _ => none }
def BoxTakesWrongFalsely : Prop := boxTakesRow.holds Try.pinned (OpenSpec.ofChange boxTakesWrong)

/-- 'triviumlaw10.BoxBack': WHATEVER THE INPUT: true; the input reads as it did. -/
def boxBackSpec : ChangeSpec := { name := "boxBack", fn := fun _ => fun
  | [d1, d2, d3] => { results := [.lit (.bool true)], args := [d1, d2, d3] }
  | _ => none }
def boxBackRow : OpenClaim := { program := "ytimjllokibnibaa", sum := "4de20e50c1163885c460abcddfef30f92e5902e8495a287f224aaccf5e43ce77", func := "trivium/triviumlaw10.BoxBack", spec := "boxBack", apart := false }
def BoxBackSaid : Prop := boxBackRow.holds Try.pinned (OpenSpec.ofChange boxBackSpec)

/-- ITS FALSE NEIGHBOUR: 'it returns false'. Refute it at one input. -/
def boxBackWrong : ChangeSpec := { name := "boxBack", fn := fun _ => fun
  | [d1, d2, d3] => { results := [.lit (.bool false)], args := [d1, d2, d3] }
  | _ => none }
def BoxBackWrongFalsely : Prop := boxBackRow.holds Try.pinned (OpenSpec.ofChange boxBackWrong)

/-- 'triviumlaw10.BoxTurned': WHATEVER THE INPUT: true; the input reads as it did. -/
def boxTurnedSpec : ChangeSpec := { name := "boxTurned", fn := fun _ => fun
  | [d1, d2, d3] => { results := [.lit (.bool true)], args := [d1, d2, d3] }
  | _ => none }
def boxTurnedRow : OpenClaim := { program := "ytimjllokibnibaa", sum := "4de20e50c1163885c460abcddfef30f92e5902e8495a287f224aaccf5e43ce77", func := "trivium/triviumlaw10.BoxTurned", spec := "boxTurned", apart := false }
def BoxTurnedSaid : Prop := boxTurnedRow.holds Try.pinned (OpenSpec.ofChange boxTurnedSpec)

/-- ITS FALSE NEIGHBOUR: 'it returns false'. Refute it at one input. -/
def boxTurnedWrong : ChangeSpec := { name := "boxTurned", fn := fun _ => fun
  | [d1, d2, d3] => { results := [.lit (.bool false)], args := [d1, d2, d3] }
  | _ => none }
def BoxTurnedWrongFalsely : Prop := boxTurnedRow.holds Try.pinned (OpenSpec.ofChange boxTurnedWrong)

/-- 'triviumlaw10.BoxSummed': WHATEVER THE INPUT: true; the input reads as it did. -/
def boxSummedSpec : ChangeSpec := { name := "boxSummed", fn := fun _ => fun
  | [d1, d2, d3] => { results := [.lit (.bool true)], args := [d1, d2, d3] }
  | _ => none }
def boxSummedRow : OpenClaim := { program := "ytimjllokibnibaa", sum := "4de20e50c1163885c460abcddfef30f92e5902e8495a287f224aaccf5e43ce77", func := "trivium/triviumlaw10.BoxSummed", spec := "boxSummed", apart := false }
def BoxSummedSaid : Prop := boxSummedRow.holds Try.pinned (OpenSpec.ofChange boxSummedSpec)

/-- ITS FALSE NEIGHBOUR: 'it returns false'. Refute it at one input. -/
def boxSummedWrong : ChangeSpec := { name := "boxSummed", fn := fun _ => fun
  | [d1, d2, d3] => { results := [.lit (.bool false)], args := [d1, d2, d3] }
  | _ => none }
def BoxSummedWrongFalsely : Prop := boxSummedRow.holds Try.pinned (OpenSpec.ofChange boxSummedWrong)

/-- 'triviumlaw10.BoxOwn': WHATEVER THE INPUT: true; the input reads as it did. -/
def boxOwnSpec : ChangeSpec := { name := "boxOwn", fn := fun _ => fun
  | [d] => { results := [.lit (.bool true)], args := [d] }
  | _ => none }
def boxOwnRow : OpenClaim := { program := "ytimjllokibnibaa", sum := "4de20e50c1163885c460abcddfef30f92e5902e8495a287f224aaccf5e43ce77", func := "trivium/triviumlaw10.BoxOwn", spec := "boxOwn", apart := false }
def BoxOwnSaid : Prop := boxOwnRow.holds Try.pinned (OpenSpec.ofChange boxOwnSpec)

/-- ITS FALSE NEIGHBOUR: 'it returns false'. Refute it at one input. -/
def boxOwnWrong : ChangeSpec := { name := "boxOwn", fn := fun _ => fun
  | [d] => { results := [.lit (.bool false)], args := [d] }
  | _ => none }
def BoxOwnWrongFalsely : Prop := boxOwnRow.holds Try.pinned (OpenSpec.ofChange boxOwnWrong)

/-- 'triviumlaw10.BoxLong': WHATEVER THE INPUT: true; the input reads as it did. -/
def boxLongSpec : ChangeSpec := { name := "boxLong", fn := fun _ => fun
  | [d1, d2] => { results := [.lit (.bool true)], args := [d1, d2] }
  | _ => none }
def boxLongRow : OpenClaim := { program := "ytimjllokibnibaa", sum := "4de20e50c1163885c460abcddfef30f92e5902e8495a287f224aaccf5e43ce77", func := "trivium/triviumlaw10.BoxLong", spec := "boxLong", apart := false }
def BoxLongSaid : Prop := boxLongRow.holds Try.pinned (OpenSpec.ofChange boxLongSpec)

/-- ITS FALSE NEIGHBOUR: 'it returns false'. Refute it at one input. -/
def boxLongWrong : ChangeSpec := { name := "boxLong", fn := fun _ => fun
  | [d1, d2] => { results := [.lit (.bool false)], args := [d1, d2] }
  | _ => none }
def BoxLongWrongFalsely : Prop := boxLongRow.holds Try.pinned (OpenSpec.ofChange boxLongWrong)

/- THE SECOND FORM. 'bulk': how many values and letters a reading holds, each counted each time it is reached (what is shared counts as often as it is met; a slice's spare places count too). A statement '..UptoSaid' is the law's where the arguments, and the package variables that the reading takes, are together of bulk at most 1048576: NARROWER than '..Said'. Prove '..Said' where nothing that the law and all that it calls make is longer than what came in: it says more and counts as full. Else prove '..UptoSaid'. A law counts once. -/
mutual
def uptoBulk {H : Type} : DataW H → Nat
  | .lit (.string bytes) => bytes.length + 1
  | .lit _ => 1
  | .nil => 1
  | .ptr d => uptoBulk d + 1
  | .slice elems spare => uptoBulkAll elems + uptoBulkAll spare + 1
  | .agg parts => uptoBulkAll parts + 1
  | .iface _ d => uptoBulk d + 1
  | .map entries => uptoBulkEntries entries + 1
  | .held _ => 1
def uptoBulkAll {H : Type} : List (DataW H) → Nat
  | [] => 0
  | d :: r => uptoBulk d + uptoBulkAll r
def uptoBulkEntries {H : Type} : List (Lit × DataW H) → Nat
  | [] => 0
  | x :: r => uptoBulkEntry x + uptoBulkEntries r
def uptoBulkEntry {H : Type} : Lit × DataW H → Nat
  | (.string bytes, d) => bytes.length + uptoBulk d + 1
  | (_, d) => uptoBulk d + 1
 end
def uptoSmall : (H : Type) → List (DataW H) → Bool := fun _ ds => decide (uptoBulkAll ds ≤ 1048576)
def OpenSpec.upto (s : _root_.Go.ChangeSpec) : _root_.Go.OpenSpec := { _root_.Go.OpenSpec.ofChange s with cond := some uptoSmall }

/-- 'triviumlaw9.CrcTells', WHERE WHAT IT READS IS OF BULK AT MOST 1048576: true; the input reads as it did. -/
def crcTellsUptoRow : OpenClaim := { program := "ytimjllokibnibaa", sum := "4de20e50c1163885c460abcddfef30f92e5902e8495a287f224aaccf5e43ce77", func := "trivium/triviumlaw9.CrcTells", spec := "crcTells", apart := false, narrowed := true }
def CrcTellsUptoSaid : Prop := crcTellsUptoRow.holds Try.pinned (OpenSpec.upto crcTellsSpec)

/-- 'triviumlaw9.CrcRows', WHERE WHAT IT READS IS OF BULK AT MOST 1048576: true; the input reads as it did. -/
def crcRowsUptoRow : OpenClaim := { program := "ytimjllokibnibaa", sum := "4de20e50c1163885c460abcddfef30f92e5902e8495a287f224aaccf5e43ce77", func := "trivium/triviumlaw9.CrcRows", spec := "crcRows", apart := false, narrowed := true }
def CrcRowsUptoSaid : Prop := crcRowsUptoRow.holds Try.pinned (OpenSpec.upto crcRowsSpec)

/-- 'triviumlaw9.CrcTurned', WHERE WHAT IT READS IS OF BULK AT MOST 1048576: true; the input reads as it did. -/
def crcTurnedUptoRow : OpenClaim := { program := "ytimjllokibnibaa", sum := "4de20e50c1163885c460abcddfef30f92e5902e8495a287f224aaccf5e43ce77", func := "trivium/triviumlaw9.CrcTurned", spec := "crcTurned", apart := false, narrowed := true }
def CrcTurnedUptoSaid : Prop := crcTurnedUptoRow.holds Try.pinned (OpenSpec.upto crcTurnedSpec)

/-- 'triviumlaw9.CrcSeal', WHERE WHAT IT READS IS OF BULK AT MOST 1048576: true; the input reads as it did. -/
def crcSealUptoRow : OpenClaim := { program := "ytimjllokibnibaa", sum := "4de20e50c1163885c460abcddfef30f92e5902e8495a287f224aaccf5e43ce77", func := "trivium/triviumlaw9.CrcSeal", spec := "crcSeal", apart := false, narrowed := true }
def CrcSealUptoSaid : Prop := crcSealUptoRow.holds Try.pinned (OpenSpec.upto crcSealSpec)

/-- 'triviumlaw9.CrcEach', WHERE WHAT IT READS IS OF BULK AT MOST 1048576: true; the input reads as it did. -/
def crcEachUptoRow : OpenClaim := { program := "ytimjllokibnibaa", sum := "4de20e50c1163885c460abcddfef30f92e5902e8495a287f224aaccf5e43ce77", func := "trivium/triviumlaw9.CrcEach", spec := "crcEach", apart := false, narrowed := true }
def CrcEachUptoSaid : Prop := crcEachUptoRow.holds Try.pinned (OpenSpec.upto crcEachSpec)

/-- 'triviumlaw9.CrcLinear', WHERE WHAT IT READS IS OF BULK AT MOST 1048576: true; the input reads as it did. -/
def crcLinearUptoRow : OpenClaim := { program := "ytimjllokibnibaa", sum := "4de20e50c1163885c460abcddfef30f92e5902e8495a287f224aaccf5e43ce77", func := "trivium/triviumlaw9.CrcLinear", spec := "crcLinear", apart := false, narrowed := true }
def CrcLinearUptoSaid : Prop := crcLinearUptoRow.holds Try.pinned (OpenSpec.upto crcLinearSpec)

/-- 'triviumlaw10.BoxPacks', WHERE WHAT IT READS IS OF BULK AT MOST 1048576: true; the input reads as it did. -/
def boxPacksUptoRow : OpenClaim := { program := "ytimjllokibnibaa", sum := "4de20e50c1163885c460abcddfef30f92e5902e8495a287f224aaccf5e43ce77", func := "trivium/triviumlaw10.BoxPacks", spec := "boxPacks", apart := false, narrowed := true }
def BoxPacksUptoSaid : Prop := boxPacksUptoRow.holds Try.pinned (OpenSpec.upto boxPacksSpec)

/-- 'triviumlaw10.BoxIDs', WHERE WHAT IT READS IS OF BULK AT MOST 1048576: true; the input reads as it did. -/
def boxIDsUptoRow : OpenClaim := { program := "ytimjllokibnibaa", sum := "4de20e50c1163885c460abcddfef30f92e5902e8495a287f224aaccf5e43ce77", func := "trivium/triviumlaw10.BoxIDs", spec := "boxIDs", apart := false, narrowed := true }
def BoxIDsUptoSaid : Prop := boxIDsUptoRow.holds Try.pinned (OpenSpec.upto boxIDsSpec)

/-- 'triviumlaw10.BoxTakes', WHERE WHAT IT READS IS OF BULK AT MOST 1048576: true; the input reads as it did. -/
def boxTakesUptoRow : OpenClaim := { program := "ytimjllokibnibaa", sum := "4de20e50c1163885c460abcddfef30f92e5902e8495a287f224aaccf5e43ce77", func := "trivium/triviumlaw10.BoxTakes", spec := "boxTakes", apart := false, narrowed := true }
def BoxTakesUptoSaid : Prop := boxTakesUptoRow.holds Try.pinned (OpenSpec.upto boxTakesSpec)

/-- 'triviumlaw10.BoxBack', WHERE WHAT IT READS IS OF BULK AT MOST 1048576: true; the input reads as it did. -/
def boxBackUptoRow : OpenClaim := { program := "ytimjllokibnibaa", sum := "4de20e50c1163885c460abcddfef30f92e5902e8495a287f224aaccf5e43ce77", func := "trivium/triviumlaw10.BoxBack", spec := "boxBack", apart := false, narrowed := true }
def BoxBackUptoSaid : Prop := boxBackUptoRow.holds Try.pinned (OpenSpec.upto boxBackSpec)

/-- 'triviumlaw10.BoxTurned', WHERE WHAT IT READS IS OF BULK AT MOST 1048576: true; the input reads as it did. -/
def boxTurnedUptoRow : OpenClaim := { program := "ytimjllokibnibaa", sum := "4de20e50c1163885c460abcddfef30f92e5902e8495a287f224aaccf5e43ce77", func := "trivium/triviumlaw10.BoxTurned", spec := "boxTurned", apart := false, narrowed := true }
def BoxTurnedUptoSaid : Prop := boxTurnedUptoRow.holds Try.pinned (OpenSpec.upto boxTurnedSpec)

/-- 'triviumlaw10.BoxSummed', WHERE WHAT IT READS IS OF BULK AT MOST 1048576: true; the input reads as it did. -/
def boxSummedUptoRow : OpenClaim := { program := "ytimjllokibnibaa", sum := "4de20e50c1163885c460abcddfef30f92e5902e8495a287f224aaccf5e43ce77", func := "trivium/triviumlaw10.BoxSummed", spec := "boxSummed", apart := false, narrowed := true }
def BoxSummedUptoSaid : Prop := boxSummedUptoRow.holds Try.pinned (OpenSpec.upto boxSummedSpec)

/-- 'triviumlaw10.BoxOwn', WHERE WHAT IT READS IS OF BULK AT MOST 1048576: true; the input reads as it did. -/
def boxOwnUptoRow : OpenClaim := { program := "ytimjllokibnibaa", sum := "4de20e50c1163885c460abcddfef30f92e5902e8495a287f224aaccf5e43ce77", func := "trivium/triviumlaw10.BoxOwn", spec := "boxOwn", apart := false, narrowed := true }
def BoxOwnUptoSaid : Prop := boxOwnUptoRow.holds Try.pinned (OpenSpec.upto boxOwnSpec)

/-- 'triviumlaw10.BoxLong', WHERE WHAT IT READS IS OF BULK AT MOST 1048576: true; the input reads as it did. -/
def boxLongUptoRow : OpenClaim := { program := "ytimjllokibnibaa", sum := "4de20e50c1163885c460abcddfef30f92e5902e8495a287f224aaccf5e43ce77", func := "trivium/triviumlaw10.BoxLong", spec := "boxLong", apart := false, narrowed := true }
def BoxLongUptoSaid : Prop := boxLongUptoRow.holds Try.pinned (OpenSpec.upto boxLongSpec)

end Rows
end Go.Proofs.Ytimjllokibnibaa
