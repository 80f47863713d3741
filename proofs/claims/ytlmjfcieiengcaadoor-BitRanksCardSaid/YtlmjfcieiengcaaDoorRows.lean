/-
  NARROWER THAN 'FOR EVERY INPUT', by the rows' own cells (each row's printed sentence says how): BitMoves: laid · BitPlaces: laid · BitRanks: laid · BitElements: laid · BitTurned: laid · BitTables: laid · BitProducts: laid · BitClosed: laid · BitPrints: laid · BitRound: laid.
  DERIVED. THE GIVEN ROWS OF THIS SEAT. 10 by the template 'for every input the law returns true; each argument reads behind the call as it read before'; 0 by the template 'total and deterministic' (their statements: YtlmjfcieiengcaaDoorTotals.lean).
  GIVEN WITH THE SEED: the statements are not yours to turn. If you find one false, say at which input.
  Laid BY PROGRAM, IN A SANDBOX (cutbox-rows.mjs): the forced cells as the released guide's own fill.sh prints them over the translation ce4ea42fdcb760b7… (all of the seat's roots in one cut). By AI agents, Wed Nov 11 2026. No macro, syntax, notation, axiom, sorry.
-/
import Derived.Test.YtlmjfcieiengcaaDoorChecked
import GoSem.Claim
import GoSem.ClaimJoined
import GoSem.ClaimMapViews
import Derived.JoinedTies
import Derived.KernelRfl
namespace Go.Proofs.YtlmjfcieiengcaaDoor
/- THE CELL 'sum', in the pinned program and in every row, IS THE sha256 OF THE DUMP (.gsa) THAT YtlmjfcieiengcaaDoorProg.lean LOADS. Nothing in Lean hashes anything: it is a label: what it is worth is what the hold of that sum in a sandbox is worth. -/
noncomputable def Tryd.pinned : Pinned := { name := "ytlmjfcieiengcaadoor", sum := "ce4ea42fdcb760b7380e55b55614f8f01c7836e7dddd419e411ab1338dcdf0bf", checked := Tryd.checked }
namespace Rows
def none {H : Type} : Left H := { results := [], args := [] }

/- WHAT THE LISTED PACKAGE-LEVEL VARIABLES READ AS WHEN THE CALL BEGINS. Each datum BY PROGRAM (the guide's laid-datum.mjs) off the statement by which the dump's own 'gosem.cut.vars' lays the variable. In a bare row this is a premise. The card (YtlmjfcieiengcaaDoorCards.lean) ties it to the program's text. -/
def laid_math_bits_deBruijn64tab {H : Type} : DataW H := .agg [.lit (.int .u8 0), .lit (.int .u8 1), .lit (.int .u8 56), .lit (.int .u8 2), .lit (.int .u8 57), .lit (.int .u8 49), .lit (.int .u8 28), .lit (.int .u8 3), .lit (.int .u8 61), .lit (.int .u8 58), .lit (.int .u8 42), .lit (.int .u8 50), .lit (.int .u8 38), .lit (.int .u8 29), .lit (.int .u8 17), .lit (.int .u8 4), .lit (.int .u8 62), .lit (.int .u8 47), .lit (.int .u8 59), .lit (.int .u8 36), .lit (.int .u8 45), .lit (.int .u8 43), .lit (.int .u8 51), .lit (.int .u8 22), .lit (.int .u8 53), .lit (.int .u8 39), .lit (.int .u8 33), .lit (.int .u8 30), .lit (.int .u8 24), .lit (.int .u8 18), .lit (.int .u8 12), .lit (.int .u8 5), .lit (.int .u8 63), .lit (.int .u8 55), .lit (.int .u8 48), .lit (.int .u8 27), .lit (.int .u8 60), .lit (.int .u8 41), .lit (.int .u8 37), .lit (.int .u8 16), .lit (.int .u8 46), .lit (.int .u8 35), .lit (.int .u8 44), .lit (.int .u8 21), .lit (.int .u8 52), .lit (.int .u8 32), .lit (.int .u8 23), .lit (.int .u8 11), .lit (.int .u8 54), .lit (.int .u8 26), .lit (.int .u8 40), .lit (.int .u8 15), .lit (.int .u8 34), .lit (.int .u8 20), .lit (.int .u8 31), .lit (.int .u8 10), .lit (.int .u8 25), .lit (.int .u8 14), .lit (.int .u8 19), .lit (.int .u8 9), .lit (.int .u8 13), .lit (.int .u8 8), .lit (.int .u8 7), .lit (.int .u8 6)]
def laid_math_bits_deBruijn32tab {H : Type} : DataW H := .agg [.lit (.int .u8 0), .lit (.int .u8 1), .lit (.int .u8 28), .lit (.int .u8 2), .lit (.int .u8 29), .lit (.int .u8 14), .lit (.int .u8 24), .lit (.int .u8 3), .lit (.int .u8 30), .lit (.int .u8 22), .lit (.int .u8 20), .lit (.int .u8 15), .lit (.int .u8 25), .lit (.int .u8 17), .lit (.int .u8 4), .lit (.int .u8 8), .lit (.int .u8 31), .lit (.int .u8 27), .lit (.int .u8 13), .lit (.int .u8 23), .lit (.int .u8 21), .lit (.int .u8 19), .lit (.int .u8 16), .lit (.int .u8 7), .lit (.int .u8 26), .lit (.int .u8 12), .lit (.int .u8 18), .lit (.int .u8 6), .lit (.int .u8 11), .lit (.int .u8 5), .lit (.int .u8 10), .lit (.int .u8 9)]
def laid_internal_strconv_uint64pow10 {H : Type} : DataW H := .agg [.lit (.int .u64 1), .lit (.int .u64 10), .lit (.int .u64 100), .lit (.int .u64 1000), .lit (.int .u64 10000), .lit (.int .u64 100000), .lit (.int .u64 1000000), .lit (.int .u64 10000000), .lit (.int .u64 100000000), .lit (.int .u64 1000000000), .lit (.int .u64 10000000000), .lit (.int .u64 100000000000), .lit (.int .u64 1000000000000), .lit (.int .u64 10000000000000), .lit (.int .u64 100000000000000), .lit (.int .u64 1000000000000000), .lit (.int .u64 10000000000000000), .lit (.int .u64 100000000000000000), .lit (.int .u64 1000000000000000000), .lit (.int .u64 10000000000000000000)]

/-- 'slopelaw3.BitMoves': WHATEVER THE INPUT: true; the input reads as it did. -/
def bitMovesSpec : ChangeSpec := { name := "bitMoves", fn := fun _ => fun
  | [d1, d2, d3, d4] => { results := [.lit (.bool true)], args := [d1, d2, d3, d4] }
  | _ => none }
def bitMovesRow : OpenClaim := { program := "ytlmjfcieiengcaadoor", sum := "ce4ea42fdcb760b7380e55b55614f8f01c7836e7dddd419e411ab1338dcdf0bf", func := "slope/slopelaw3.BitMoves", spec := "bitMoves", unfollowed := true, recurses := true, named := ["math/bits.deBruijn64tab"], apart := false, laid := [("math/bits.deBruijn64tab", laid_math_bits_deBruijn64tab)] }
def BitMovesSaid : Prop := bitMovesRow.holds Tryd.pinned (OpenSpec.ofChange bitMovesSpec)

/-- ITS FALSE NEIGHBOUR: 'it returns false'. Refute it at one input. -/
def bitMovesWrong : ChangeSpec := { name := "bitMoves", fn := fun _ => fun
  | [d1, d2, d3, d4] => { results := [.lit (.bool false)], args := [d1, d2, d3, d4] }
  | _ => none }
def BitMovesWrongFalsely : Prop := bitMovesRow.holds Tryd.pinned (OpenSpec.ofChange bitMovesWrong)

/-- 'slopelaw3.BitPlaces': WHATEVER THE INPUT: true; the input reads as it did. -/
def bitPlacesSpec : ChangeSpec := { name := "bitPlaces", fn := fun _ => fun
  | [d1, d2] => { results := [.lit (.bool true)], args := [d1, d2] }
  | _ => none }
def bitPlacesRow : OpenClaim := { program := "ytlmjfcieiengcaadoor", sum := "ce4ea42fdcb760b7380e55b55614f8f01c7836e7dddd419e411ab1338dcdf0bf", func := "slope/slopelaw3.BitPlaces", spec := "bitPlaces", named := ["math/bits.deBruijn64tab"], apart := false, laid := [("math/bits.deBruijn64tab", laid_math_bits_deBruijn64tab)] }
def BitPlacesSaid : Prop := bitPlacesRow.holds Tryd.pinned (OpenSpec.ofChange bitPlacesSpec)

/-- ITS FALSE NEIGHBOUR: 'it returns false'. Refute it at one input. -/
def bitPlacesWrong : ChangeSpec := { name := "bitPlaces", fn := fun _ => fun
  | [d1, d2] => { results := [.lit (.bool false)], args := [d1, d2] }
  | _ => none }
def BitPlacesWrongFalsely : Prop := bitPlacesRow.holds Tryd.pinned (OpenSpec.ofChange bitPlacesWrong)

/-- 'slopelaw3.BitRanks': WHATEVER THE INPUT: true; the input reads as it did. -/
def bitRanksSpec : ChangeSpec := { name := "bitRanks", fn := fun _ => fun
  | [d1, d2] => { results := [.lit (.bool true)], args := [d1, d2] }
  | _ => none }
def bitRanksRow : OpenClaim := { program := "ytlmjfcieiengcaadoor", sum := "ce4ea42fdcb760b7380e55b55614f8f01c7836e7dddd419e411ab1338dcdf0bf", func := "slope/slopelaw3.BitRanks", spec := "bitRanks", named := ["math/bits.deBruijn64tab"], apart := false, laid := [("math/bits.deBruijn64tab", laid_math_bits_deBruijn64tab)] }
def BitRanksSaid : Prop := bitRanksRow.holds Tryd.pinned (OpenSpec.ofChange bitRanksSpec)

/-- ITS FALSE NEIGHBOUR: 'it returns false'. Refute it at one input. -/
def bitRanksWrong : ChangeSpec := { name := "bitRanks", fn := fun _ => fun
  | [d1, d2] => { results := [.lit (.bool false)], args := [d1, d2] }
  | _ => none }
def BitRanksWrongFalsely : Prop := bitRanksRow.holds Tryd.pinned (OpenSpec.ofChange bitRanksWrong)

/-- 'slopelaw3.BitElements': WHATEVER THE INPUT: true; the input reads as it did. -/
def bitElementsSpec : ChangeSpec := { name := "bitElements", fn := fun _ => fun
  | [d1, d2, d3] => { results := [.lit (.bool true)], args := [d1, d2, d3] }
  | _ => none }
def bitElementsRow : OpenClaim := { program := "ytlmjfcieiengcaadoor", sum := "ce4ea42fdcb760b7380e55b55614f8f01c7836e7dddd419e411ab1338dcdf0bf", func := "slope/slopelaw3.BitElements", spec := "bitElements", unfollowed := true, recurses := true, named := ["math/bits.deBruijn64tab"], apart := false, laid := [("math/bits.deBruijn64tab", laid_math_bits_deBruijn64tab)] }
def BitElementsSaid : Prop := bitElementsRow.holds Tryd.pinned (OpenSpec.ofChange bitElementsSpec)

/-- ITS FALSE NEIGHBOUR: 'it returns false'. Refute it at one input. -/
def bitElementsWrong : ChangeSpec := { name := "bitElements", fn := fun _ => fun
  | [d1, d2, d3] => { results := [.lit (.bool false)], args := [d1, d2, d3] }
  | _ => none }
def BitElementsWrongFalsely : Prop := bitElementsRow.holds Tryd.pinned (OpenSpec.ofChange bitElementsWrong)

/-- 'slopelaw3.BitTurned': WHATEVER THE INPUT: true; the input reads as it did. -/
def bitTurnedSpec : ChangeSpec := { name := "bitTurned", fn := fun _ => fun
  | [d1, d2] => { results := [.lit (.bool true)], args := [d1, d2] }
  | _ => none }
def bitTurnedRow : OpenClaim := { program := "ytlmjfcieiengcaadoor", sum := "ce4ea42fdcb760b7380e55b55614f8f01c7836e7dddd419e411ab1338dcdf0bf", func := "slope/slopelaw3.BitTurned", spec := "bitTurned", unfollowed := true, recurses := true, named := ["math/bits.deBruijn64tab"], apart := false, laid := [("math/bits.deBruijn64tab", laid_math_bits_deBruijn64tab)] }
def BitTurnedSaid : Prop := bitTurnedRow.holds Tryd.pinned (OpenSpec.ofChange bitTurnedSpec)

/-- ITS FALSE NEIGHBOUR: 'it returns false'. Refute it at one input. -/
def bitTurnedWrong : ChangeSpec := { name := "bitTurned", fn := fun _ => fun
  | [d1, d2] => { results := [.lit (.bool false)], args := [d1, d2] }
  | _ => none }
def BitTurnedWrongFalsely : Prop := bitTurnedRow.holds Tryd.pinned (OpenSpec.ofChange bitTurnedWrong)

/-- 'slopelaw3.BitTables': WHATEVER THE INPUT: true; the input reads as it did. -/
def bitTablesSpec : ChangeSpec := { name := "bitTables", fn := fun _ => fun
  | [d1, d2] => { results := [.lit (.bool true)], args := [d1, d2] }
  | _ => none }
def bitTablesRow : OpenClaim := { program := "ytlmjfcieiengcaadoor", sum := "ce4ea42fdcb760b7380e55b55614f8f01c7836e7dddd419e411ab1338dcdf0bf", func := "slope/slopelaw3.BitTables", spec := "bitTables", inPlace := ["internal/abi.NoEscape"], unfollowed := true, recurses := true, named := ["math/bits.deBruijn64tab"], apart := false, laid := [("math/bits.deBruijn64tab", laid_math_bits_deBruijn64tab)] }
def BitTablesSaid : Prop := bitTablesRow.holds Tryd.pinned (OpenSpec.ofChange bitTablesSpec)

/-- ITS FALSE NEIGHBOUR: 'it returns false'. Refute it at one input. -/
def bitTablesWrong : ChangeSpec := { name := "bitTables", fn := fun _ => fun
  | [d1, d2] => { results := [.lit (.bool false)], args := [d1, d2] }
  | _ => none }
def BitTablesWrongFalsely : Prop := bitTablesRow.holds Tryd.pinned (OpenSpec.ofChange bitTablesWrong)

/-- 'slopelaw3.BitProducts': WHATEVER THE INPUT: true; the input reads as it did. -/
def bitProductsSpec : ChangeSpec := { name := "bitProducts", fn := fun _ => fun
  | [d1, d2] => { results := [.lit (.bool true)], args := [d1, d2] }
  | _ => none }
def bitProductsRow : OpenClaim := { program := "ytlmjfcieiengcaadoor", sum := "ce4ea42fdcb760b7380e55b55614f8f01c7836e7dddd419e411ab1338dcdf0bf", func := "slope/slopelaw3.BitProducts", spec := "bitProducts", unfollowed := true, recurses := true, named := ["math/bits.deBruijn64tab"], apart := false, laid := [("math/bits.deBruijn64tab", laid_math_bits_deBruijn64tab)] }
def BitProductsSaid : Prop := bitProductsRow.holds Tryd.pinned (OpenSpec.ofChange bitProductsSpec)

/-- ITS FALSE NEIGHBOUR: 'it returns false'. Refute it at one input. -/
def bitProductsWrong : ChangeSpec := { name := "bitProducts", fn := fun _ => fun
  | [d1, d2] => { results := [.lit (.bool false)], args := [d1, d2] }
  | _ => none }
def BitProductsWrongFalsely : Prop := bitProductsRow.holds Tryd.pinned (OpenSpec.ofChange bitProductsWrong)

/-- 'slopelaw3.BitClosed': WHATEVER THE INPUT: true; the input reads as it did. -/
def bitClosedSpec : ChangeSpec := { name := "bitClosed", fn := fun _ => fun
  | [d1, d2, d3, d4] => { results := [.lit (.bool true)], args := [d1, d2, d3, d4] }
  | _ => none }
def bitClosedRow : OpenClaim := { program := "ytlmjfcieiengcaadoor", sum := "ce4ea42fdcb760b7380e55b55614f8f01c7836e7dddd419e411ab1338dcdf0bf", func := "slope/slopelaw3.BitClosed", spec := "bitClosed", unfollowed := true, recurses := true, named := ["math/bits.deBruijn64tab"], apart := false, laid := [("math/bits.deBruijn64tab", laid_math_bits_deBruijn64tab)] }
def BitClosedSaid : Prop := bitClosedRow.holds Tryd.pinned (OpenSpec.ofChange bitClosedSpec)

/-- ITS FALSE NEIGHBOUR: 'it returns false'. Refute it at one input. -/
def bitClosedWrong : ChangeSpec := { name := "bitClosed", fn := fun _ => fun
  | [d1, d2, d3, d4] => { results := [.lit (.bool false)], args := [d1, d2, d3, d4] }
  | _ => none }
def BitClosedWrongFalsely : Prop := bitClosedRow.holds Tryd.pinned (OpenSpec.ofChange bitClosedWrong)

/-- 'slopelaw3.BitPrints': WHATEVER THE INPUT: true; the input reads as it did. -/
def bitPrintsSpec : ChangeSpec := { name := "bitPrints", fn := fun _ => fun
  | [d] => { results := [.lit (.bool true)], args := [d] }
  | _ => none }
def bitPrintsRow : OpenClaim := { program := "ytlmjfcieiengcaadoor", sum := "ce4ea42fdcb760b7380e55b55614f8f01c7836e7dddd419e411ab1338dcdf0bf", func := "slope/slopelaw3.BitPrints", spec := "bitPrints", inPlace := ["internal/abi.NoEscape"], named := ["internal/strconv.uint64pow10", "math/bits.deBruijn32tab", "math/bits.deBruijn64tab"], apart := false, laid := [("math/bits.deBruijn32tab", laid_math_bits_deBruijn32tab), ("math/bits.deBruijn64tab", laid_math_bits_deBruijn64tab), ("internal/strconv.uint64pow10", laid_internal_strconv_uint64pow10)] }
def BitPrintsSaid : Prop := bitPrintsRow.holds Tryd.pinned (OpenSpec.ofChange bitPrintsSpec)

/-- ITS FALSE NEIGHBOUR: 'it returns false'. Refute it at one input. -/
def bitPrintsWrong : ChangeSpec := { name := "bitPrints", fn := fun _ => fun
  | [d] => { results := [.lit (.bool false)], args := [d] }
  | _ => none }
def BitPrintsWrongFalsely : Prop := bitPrintsRow.holds Tryd.pinned (OpenSpec.ofChange bitPrintsWrong)

/-- 'slopelaw3.BitRound': WHATEVER THE INPUT: true; the input reads as it did. -/
def bitRoundSpec : ChangeSpec := { name := "bitRound", fn := fun _ => fun
  | [d1, d2] => { results := [.lit (.bool true)], args := [d1, d2] }
  | _ => none }
def bitRoundRow : OpenClaim := { program := "ytlmjfcieiengcaadoor", sum := "ce4ea42fdcb760b7380e55b55614f8f01c7836e7dddd419e411ab1338dcdf0bf", func := "slope/slopelaw3.BitRound", spec := "bitRound", inPlace := ["internal/abi.NoEscape"], named := ["internal/strconv.uint64pow10", "math/bits.deBruijn32tab", "math/bits.deBruijn64tab"], apart := false, laid := [("math/bits.deBruijn32tab", laid_math_bits_deBruijn32tab), ("math/bits.deBruijn64tab", laid_math_bits_deBruijn64tab), ("internal/strconv.uint64pow10", laid_internal_strconv_uint64pow10)] }
def BitRoundSaid : Prop := bitRoundRow.holds Tryd.pinned (OpenSpec.ofChange bitRoundSpec)

/-- ITS FALSE NEIGHBOUR: 'it returns false'. Refute it at one input. -/
def bitRoundWrong : ChangeSpec := { name := "bitRound", fn := fun _ => fun
  | [d1, d2] => { results := [.lit (.bool false)], args := [d1, d2] }
  | _ => none }
def BitRoundWrongFalsely : Prop := bitRoundRow.holds Tryd.pinned (OpenSpec.ofChange bitRoundWrong)

/- THE SECOND FORM. 'bulk': how many values and letters a reading holds, each counted each time it is reached (what is shared counts as often as it is met; a slice's spare places count too). A statement '..UptoSaid' is the law's where the arguments, and the package variables that the reading takes, are together of bulk at most 1048576: NARROWER than '..Said'. Prove '..Said' where nothing that the law and all that it calls make is longer than what came in: it says more and counts as full. Else prove '..UptoSaid'. A law counts once. -/
mutual
def uptoBulk {H : Type} : DataW H → Nat
  | .lit (.string bytes) => bytes.length + 1
  | .lit _ => 1
  | .nil => 1
  | .ptr d => uptoBulk d + 1
  | .slice elems spare => uptoBulkAll elems + uptoBulkAll spare + 1
  | .agg parts => uptoBulkAll parts + 1
  | .iface _ d => uptoBulk d + 1
  | .map entries => uptoBulkEntries entries + 1
  | .held _ => 1
def uptoBulkAll {H : Type} : List (DataW H) → Nat
  | [] => 0
  | d :: r => uptoBulk d + uptoBulkAll r
def uptoBulkEntries {H : Type} : List (Lit × DataW H) → Nat
  | [] => 0
  | x :: r => uptoBulkEntry x + uptoBulkEntries r
def uptoBulkEntry {H : Type} : Lit × DataW H → Nat
  | (.string bytes, d) => bytes.length + uptoBulk d + 1
  | (_, d) => uptoBulk d + 1
 end
def uptoSmall : (H : Type) → List (DataW H) → Bool := fun _ ds => decide (uptoBulkAll ds ≤ 1048576)
def OpenSpec.upto (s : _root_.Go.ChangeSpec) : _root_.Go.OpenSpec := { _root_.Go.OpenSpec.ofChange s with cond := some uptoSmall }

/-- 'slopelaw3.BitMoves', WHERE WHAT IT READS IS OF BULK AT MOST 1048576: true; the input reads as it did. -/
def bitMovesUptoRow : OpenClaim := { program := "ytlmjfcieiengcaadoor", sum := "ce4ea42fdcb760b7380e55b55614f8f01c7836e7dddd419e411ab1338dcdf0bf", func := "slope/slopelaw3.BitMoves", spec := "bitMoves", unfollowed := true, recurses := true, named := ["math/bits.deBruijn64tab"], apart := false, laid := [("math/bits.deBruijn64tab", laid_math_bits_deBruijn64tab)], narrowed := true }
def BitMovesUptoSaid : Prop := bitMovesUptoRow.holds Tryd.pinned (OpenSpec.upto bitMovesSpec)

/-- 'slopelaw3.BitPlaces', WHERE WHAT IT READS IS OF BULK AT MOST 1048576: true; the input reads as it did. -/
def bitPlacesUptoRow : OpenClaim := { program := "ytlmjfcieiengcaadoor", sum := "ce4ea42fdcb760b7380e55b55614f8f01c7836e7dddd419e411ab1338dcdf0bf", func := "slope/slopelaw3.BitPlaces", spec := "bitPlaces", named := ["math/bits.deBruijn64tab"], apart := false, laid := [("math/bits.deBruijn64tab", laid_math_bits_deBruijn64tab)], narrowed := true }
def BitPlacesUptoSaid : Prop := bitPlacesUptoRow.holds Tryd.pinned (OpenSpec.upto bitPlacesSpec)

/-- 'slopelaw3.BitRanks', WHERE WHAT IT READS IS OF BULK AT MOST 1048576: true; the input reads as it did. -/
def bitRanksUptoRow : OpenClaim := { program := "ytlmjfcieiengcaadoor", sum := "ce4ea42fdcb760b7380e55b55614f8f01c7836e7dddd419e411ab1338dcdf0bf", func := "slope/slopelaw3.BitRanks", spec := "bitRanks", named := ["math/bits.deBruijn64tab"], apart := false, laid := [("math/bits.deBruijn64tab", laid_math_bits_deBruijn64tab)], narrowed := true }
def BitRanksUptoSaid : Prop := bitRanksUptoRow.holds Tryd.pinned (OpenSpec.upto bitRanksSpec)

/-- 'slopelaw3.BitElements', WHERE WHAT IT READS IS OF BULK AT MOST 1048576: true; the input reads as it did. -/
def bitElementsUptoRow : OpenClaim := { program := "ytlmjfcieiengcaadoor", sum := "ce4ea42fdcb760b7380e55b55614f8f01c7836e7dddd419e411ab1338dcdf0bf", func := "slope/slopelaw3.BitElements", spec := "bitElements", unfollowed := true, recurses := true, named := ["math/bits.deBruijn64tab"], apart := false, laid := [("math/bits.deBruijn64tab", laid_math_bits_deBruijn64tab)], narrowed := true }
def BitElementsUptoSaid : Prop := bitElementsUptoRow.holds Tryd.pinned (OpenSpec.upto bitElementsSpec)

/-- 'slopelaw3.BitTurned', WHERE WHAT IT READS IS OF BULK AT MOST 1048576: true; the input reads as it did. -/
def bitTurnedUptoRow : OpenClaim := { program := "ytlmjfcieiengcaadoor", sum := "ce4ea42fdcb760b7380e55b55614f8f01c7836e7dddd419e411ab1338dcdf0bf", func := "slope/slopelaw3.BitTurned", spec := "bitTurned", unfollowed := true, recurses := true, named := ["math/bits.deBruijn64tab"], apart := false, laid := [("math/bits.deBruijn64tab", laid_math_bits_deBruijn64tab)], narrowed := true }
def BitTurnedUptoSaid : Prop := bitTurnedUptoRow.holds Tryd.pinned (OpenSpec.upto bitTurnedSpec)

/-- 'slopelaw3.BitTables', WHERE WHAT IT READS IS OF BULK AT MOST 1048576: true; the input reads as it did. -/
def bitTablesUptoRow : OpenClaim := { program := "ytlmjfcieiengcaadoor", sum := "ce4ea42fdcb760b7380e55b55614f8f01c7836e7dddd419e411ab1338dcdf0bf", func := "slope/slopelaw3.BitTables", spec := "bitTables", inPlace := ["internal/abi.NoEscape"], unfollowed := true, recurses := true, named := ["math/bits.deBruijn64tab"], apart := false, laid := [("math/bits.deBruijn64tab", laid_math_bits_deBruijn64tab)], narrowed := true }
def BitTablesUptoSaid : Prop := bitTablesUptoRow.holds Tryd.pinned (OpenSpec.upto bitTablesSpec)

/-- 'slopelaw3.BitProducts', WHERE WHAT IT READS IS OF BULK AT MOST 1048576: true; the input reads as it did. -/
def bitProductsUptoRow : OpenClaim := { program := "ytlmjfcieiengcaadoor", sum := "ce4ea42fdcb760b7380e55b55614f8f01c7836e7dddd419e411ab1338dcdf0bf", func := "slope/slopelaw3.BitProducts", spec := "bitProducts", unfollowed := true, recurses := true, named := ["math/bits.deBruijn64tab"], apart := false, laid := [("math/bits.deBruijn64tab", laid_math_bits_deBruijn64tab)], narrowed := true }
def BitProductsUptoSaid : Prop := bitProductsUptoRow.holds Tryd.pinned (OpenSpec.upto bitProductsSpec)

/-- 'slopelaw3.BitClosed', WHERE WHAT IT READS IS OF BULK AT MOST 1048576: true; the input reads as it did. -/
def bitClosedUptoRow : OpenClaim := { program := "ytlmjfcieiengcaadoor", sum := "ce4ea42fdcb760b7380e55b55614f8f01c7836e7dddd419e411ab1338dcdf0bf", func := "slope/slopelaw3.BitClosed", spec := "bitClosed", unfollowed := true, recurses := true, named := ["math/bits.deBruijn64tab"], apart := false, laid := [("math/bits.deBruijn64tab", laid_math_bits_deBruijn64tab)], narrowed := true }
def BitClosedUptoSaid : Prop := bitClosedUptoRow.holds Tryd.pinned (OpenSpec.upto bitClosedSpec)

/-- 'slopelaw3.BitPrints', WHERE WHAT IT READS IS OF BULK AT MOST 1048576: true; the input reads as it did. -/
def bitPrintsUptoRow : OpenClaim := { program := "ytlmjfcieiengcaadoor", sum := "ce4ea42fdcb760b7380e55b55614f8f01c7836e7dddd419e411ab1338dcdf0bf", func := "slope/slopelaw3.BitPrints", spec := "bitPrints", inPlace := ["internal/abi.NoEscape"], named := ["internal/strconv.uint64pow10", "math/bits.deBruijn32tab", "math/bits.deBruijn64tab"], apart := false, laid := [("math/bits.deBruijn32tab", laid_math_bits_deBruijn32tab), ("math/bits.deBruijn64tab", laid_math_bits_deBruijn64tab), ("internal/strconv.uint64pow10", laid_internal_strconv_uint64pow10)], narrowed := true }
def BitPrintsUptoSaid : Prop := bitPrintsUptoRow.holds Tryd.pinned (OpenSpec.upto bitPrintsSpec)

/-- 'slopelaw3.BitRound', WHERE WHAT IT READS IS OF BULK AT MOST 1048576: true; the input reads as it did. -/
def bitRoundUptoRow : OpenClaim := { program := "ytlmjfcieiengcaadoor", sum := "ce4ea42fdcb760b7380e55b55614f8f01c7836e7dddd419e411ab1338dcdf0bf", func := "slope/slopelaw3.BitRound", spec := "bitRound", inPlace := ["internal/abi.NoEscape"], named := ["internal/strconv.uint64pow10", "math/bits.deBruijn32tab", "math/bits.deBruijn64tab"], apart := false, laid := [("math/bits.deBruijn32tab", laid_math_bits_deBruijn32tab), ("math/bits.deBruijn64tab", laid_math_bits_deBruijn64tab), ("internal/strconv.uint64pow10", laid_internal_strconv_uint64pow10)], narrowed := true }
def BitRoundUptoSaid : Prop := bitRoundUptoRow.holds Tryd.pinned (OpenSpec.upto bitRoundSpec)

end Rows
end Go.Proofs.YtlmjfcieiengcaaDoor
