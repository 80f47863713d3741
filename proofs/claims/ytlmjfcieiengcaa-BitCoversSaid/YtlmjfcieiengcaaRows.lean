/-
  No cell of these rows narrows 'for every input' (looked for: loops, veiled, ifaces, maps, wideKeys, modest, calm, conditions, laid).
  DERIVED. THE GIVEN ROWS OF THIS SEAT. 4 by the template 'for every input the law returns true; each argument reads behind the call as it read before'; 0 by the template 'total and deterministic' (their statements: YtlmjfcieiengcaaTotals.lean).
  GIVEN WITH THE SEED: the statements are not yours to turn. If you find one false, say at which input.
  Laid BY PROGRAM, IN A SANDBOX (cutbox-rows.mjs): the forced cells as the released guide's own fill.sh prints them over the translation cd7c1da0f4ff2107… (all of the seat's roots in one cut). By AI agents, Wed Nov 11 2026. No macro, syntax, notation, axiom, sorry.
-/
import Derived.Test.YtlmjfcieiengcaaChecked
import GoSem.Claim
import GoSem.ClaimJoined
import GoSem.ClaimMapViews
import Derived.JoinedTies
import Derived.KernelRfl
namespace Go.Proofs.Ytlmjfcieiengcaa
/- THE CELL 'sum', in the pinned program and in every row, IS THE sha256 OF THE DUMP (.gsa) THAT YtlmjfcieiengcaaProg.lean LOADS. Nothing in Lean hashes anything: it is a label: what it is worth is what the hold of that sum in a sandbox is worth. -/
noncomputable def Try.pinned : Pinned := { name := "ytlmjfcieiengcaa", sum := "cd7c1da0f4ff2107306b11e52bdc6cf1e140eca83b4bb8be4ec3d5988946ea6b", checked := Try.checked }
namespace Rows
def none {H : Type} : Left H := { results := [], args := [] }

/-- 'slopelaw3.BitTexts': WHATEVER THE INPUT: true; the input reads as it did. -/
def bitTextsSpec : ChangeSpec := { name := "bitTexts", fn := fun _ => fun
  | [d] => { results := [.lit (.bool true)], args := [d] }
  | _ => none }
def bitTextsRow : OpenClaim := { program := "ytlmjfcieiengcaa", sum := "cd7c1da0f4ff2107306b11e52bdc6cf1e140eca83b4bb8be4ec3d5988946ea6b", func := "slope/slopelaw3.BitTexts", spec := "bitTexts", apart := false }
def BitTextsSaid : Prop := bitTextsRow.holds Try.pinned (OpenSpec.ofChange bitTextsSpec)

/-- ITS FALSE NEIGHBOUR: 'it returns false'. Refute it at one input. -/
def bitTextsWrong : ChangeSpec := { name := "bitTexts", fn := fun _ => fun
  | [d] => { results := [.lit (.bool false)], args := [d] }
  | _ => none }
def BitTextsWrongFalsely : Prop := bitTextsRow.holds Try.pinned (OpenSpec.ofChange bitTextsWrong)

/-- 'slopelaw3.BitCovers': WHATEVER THE INPUT: true; the input reads as it did. -/
def bitCoversSpec : ChangeSpec := { name := "bitCovers", fn := fun _ => fun
  | [d1, d2] => { results := [.lit (.bool true)], args := [d1, d2] }
  | _ => none }
def bitCoversRow : OpenClaim := { program := "ytlmjfcieiengcaa", sum := "cd7c1da0f4ff2107306b11e52bdc6cf1e140eca83b4bb8be4ec3d5988946ea6b", func := "slope/slopelaw3.BitCovers", spec := "bitCovers", unfollowed := true, recurses := true, apart := false }
def BitCoversSaid : Prop := bitCoversRow.holds Try.pinned (OpenSpec.ofChange bitCoversSpec)

/-- ITS FALSE NEIGHBOUR: 'it returns false'. Refute it at one input. -/
def bitCoversWrong : ChangeSpec := { name := "bitCovers", fn := fun _ => fun
  | [d1, d2] => { results := [.lit (.bool false)], args := [d1, d2] }
  | _ => none }
def BitCoversWrongFalsely : Prop := bitCoversRow.holds Try.pinned (OpenSpec.ofChange bitCoversWrong)

/-- 'slopelaw3.BitCovered': WHATEVER THE INPUT: true; the input reads as it did. -/
def bitCoveredSpec : ChangeSpec := { name := "bitCovered", fn := fun _ => fun
  | [d1, d2] => { results := [.lit (.bool true)], args := [d1, d2] }
  | _ => none }
def bitCoveredRow : OpenClaim := { program := "ytlmjfcieiengcaa", sum := "cd7c1da0f4ff2107306b11e52bdc6cf1e140eca83b4bb8be4ec3d5988946ea6b", func := "slope/slopelaw3.BitCovered", spec := "bitCovered", unfollowed := true, recurses := true, apart := false }
def BitCoveredSaid : Prop := bitCoveredRow.holds Try.pinned (OpenSpec.ofChange bitCoveredSpec)

/-- ITS FALSE NEIGHBOUR: 'it returns false'. Refute it at one input. -/
def bitCoveredWrong : ChangeSpec := { name := "bitCovered", fn := fun _ => fun
  | [d1, d2] => { results := [.lit (.bool false)], args := [d1, d2] }
  | _ => none }
def BitCoveredWrongFalsely : Prop := bitCoveredRow.holds Try.pinned (OpenSpec.ofChange bitCoveredWrong)

/-- 'slopelaw3.BitLattice': WHATEVER THE INPUT: true; the input reads as it did. -/
def bitLatticeSpec : ChangeSpec := { name := "bitLattice", fn := fun _ => fun
  | [d1, d2, d3, d4] => { results := [.lit (.bool true)], args := [d1, d2, d3, d4] }
  | _ => none }
def bitLatticeRow : OpenClaim := { program := "ytlmjfcieiengcaa", sum := "cd7c1da0f4ff2107306b11e52bdc6cf1e140eca83b4bb8be4ec3d5988946ea6b", func := "slope/slopelaw3.BitLattice", spec := "bitLattice", unfollowed := true, recurses := true, apart := false }
def BitLatticeSaid : Prop := bitLatticeRow.holds Try.pinned (OpenSpec.ofChange bitLatticeSpec)

/-- ITS FALSE NEIGHBOUR: 'it returns false'. Refute it at one input. -/
def bitLatticeWrong : ChangeSpec := { name := "bitLattice", fn := fun _ => fun
  | [d1, d2, d3, d4] => { results := [.lit (.bool false)], args := [d1, d2, d3, d4] }
  | _ => none }
def BitLatticeWrongFalsely : Prop := bitLatticeRow.holds Try.pinned (OpenSpec.ofChange bitLatticeWrong)

/- THE SECOND FORM. 'bulk': how many values and letters a reading holds, each counted each time it is reached (what is shared counts as often as it is met; a slice's spare places count too). A statement '..UptoSaid' is the law's where the arguments, and the package variables that the reading takes, are together of bulk at most 1048576: NARROWER than '..Said'. Prove '..Said' where nothing that the law and all that it calls make is longer than what came in: it says more and counts as full. Else prove '..UptoSaid'. A law counts once. -/
mutual
def uptoBulk {H : Type} : DataW H → Nat
  | .lit (.string bytes) => bytes.length + 1
  | .lit _ => 1
  | .nil => 1
  | .ptr d => uptoBulk d + 1
  | .slice elems spare => uptoBulkAll elems + uptoBulkAll spare + 1
  | .agg parts => uptoBulkAll parts + 1
  | .iface _ d => uptoBulk d + 1
  | .map entries => uptoBulkEntries entries + 1
  | .held _ => 1
def uptoBulkAll {H : Type} : List (DataW H) → Nat
  | [] => 0
  | d :: r => uptoBulk d + uptoBulkAll r
def uptoBulkEntries {H : Type} : List (Lit × DataW H) → Nat
  | [] => 0
  | x :: r => uptoBulkEntry x + uptoBulkEntries r
def uptoBulkEntry {H : Type} : Lit × DataW H → Nat
  | (.string bytes, d) => bytes.length + uptoBulk d + 1
  | (_, d) => uptoBulk d + 1
 end
def uptoSmall : (H : Type) → List (DataW H) → Bool := fun _ ds => decide (uptoBulkAll ds ≤ 1048576)
def OpenSpec.upto (s : _root_.Go.ChangeSpec) : _root_.Go.OpenSpec := { _root_.Go.OpenSpec.ofChange s with cond := some uptoSmall }

/-- 'slopelaw3.BitTexts', WHERE WHAT IT READS IS OF BULK AT MOST 1048576: true; the input reads as it did. -/
def bitTextsUptoRow : OpenClaim := { program := "ytlmjfcieiengcaa", sum := "cd7c1da0f4ff2107306b11e52bdc6cf1e140eca83b4bb8be4ec3d5988946ea6b", func := "slope/slopelaw3.BitTexts", spec := "bitTexts", apart := false, narrowed := true }
def BitTextsUptoSaid : Prop := bitTextsUptoRow.holds Try.pinned (OpenSpec.upto bitTextsSpec)

/-- 'slopelaw3.BitCovers', WHERE WHAT IT READS IS OF BULK AT MOST 1048576: true; the input reads as it did. -/
def bitCoversUptoRow : OpenClaim := { program := "ytlmjfcieiengcaa", sum := "cd7c1da0f4ff2107306b11e52bdc6cf1e140eca83b4bb8be4ec3d5988946ea6b", func := "slope/slopelaw3.BitCovers", spec := "bitCovers", unfollowed := true, recurses := true, apart := false, narrowed := true }
def BitCoversUptoSaid : Prop := bitCoversUptoRow.holds Try.pinned (OpenSpec.upto bitCoversSpec)

/-- 'slopelaw3.BitCovered', WHERE WHAT IT READS IS OF BULK AT MOST 1048576: true; the input reads as it did. -/
def bitCoveredUptoRow : OpenClaim := { program := "ytlmjfcieiengcaa", sum := "cd7c1da0f4ff2107306b11e52bdc6cf1e140eca83b4bb8be4ec3d5988946ea6b", func := "slope/slopelaw3.BitCovered", spec := "bitCovered", unfollowed := true, recurses := true, apart := false, narrowed := true }
def BitCoveredUptoSaid : Prop := bitCoveredUptoRow.holds Try.pinned (OpenSpec.upto bitCoveredSpec)

/-- 'slopelaw3.BitLattice', WHERE WHAT IT READS IS OF BULK AT MOST 1048576: true; the input reads as it did. -/
def bitLatticeUptoRow : OpenClaim := { program := "ytlmjfcieiengcaa", sum := "cd7c1da0f4ff2107306b11e52bdc6cf1e140eca83b4bb8be4ec3d5988946ea6b", func := "slope/slopelaw3.BitLattice", spec := "bitLattice", unfollowed := true, recurses := true, apart := false, narrowed := true }
def BitLatticeUptoSaid : Prop := bitLatticeUptoRow.holds Try.pinned (OpenSpec.upto bitLatticeSpec)

end Rows
end Go.Proofs.Ytlmjfcieiengcaa
