/-
  No cell of these rows narrows 'for every input' (looked for: loops, veiled, ifaces, maps, wideKeys, modest, calm, conditions, laid).
  DERIVED. THE GIVEN ROWS OF THIS SEAT. 6 by the template 'for every input the law returns true; each argument reads behind the call as it read before'; 0 by the template 'total and deterministic' (their statements: YthfoaehjnoiniaaTotals.lean).
  GIVEN WITH THE SEED: the statements are not yours to turn. If you find one false, say at which input.
  Laid BY PROGRAM, IN A SANDBOX (cutbox-rows.mjs): the forced cells as the released guide's own fill.sh prints them over the translation 0bc7d3f6c3deb4f8… (all of the seat's roots in one cut). By AI agents, Wed Nov 11 2026. No macro, syntax, notation, axiom, sorry.
-/
import Derived.Test.YthfoaehjnoiniaaChecked
import GoSem.Claim
import GoSem.ClaimJoined
import GoSem.ClaimMapViews
import Derived.JoinedTies
import Derived.KernelRfl
namespace Go.Proofs.Ythfoaehjnoiniaa
/- THE CELL 'sum', in the pinned program and in every row, IS THE sha256 OF THE DUMP (.gsa) THAT YthfoaehjnoiniaaProg.lean LOADS. Nothing in Lean hashes anything: it is a label: what it is worth is what the hold of that sum in a sandbox is worth. -/
noncomputable def Try.pinned : Pinned := { name := "ythfoaehjnoiniaa", sum := "0bc7d3f6c3deb4f8612e9f31d9813edcd0081f21610e405cd18e034efcfb40cf", checked := Try.checked }
namespace Rows
def none {H : Type} : Left H := { results := [], args := [] }

/-- 'aquiferlaw17.GraphTurned': WHATEVER THE INPUT: true; the input reads as it did. -/
def graphTurnedSpec : ChangeSpec := { name := "graphTurned", fn := fun _ => fun
  | [d1, d2] => { results := [.lit (.bool true)], args := [d1, d2] }
  | _ => none }
def graphTurnedRow : OpenClaim := { program := "ythfoaehjnoiniaa", sum := "0bc7d3f6c3deb4f8612e9f31d9813edcd0081f21610e405cd18e034efcfb40cf", func := "aquifer/aquiferlaw17.GraphTurned", spec := "graphTurned", unfollowed := true, recurses := true, apart := false }
def GraphTurnedSaid : Prop := graphTurnedRow.holds Try.pinned (OpenSpec.ofChange graphTurnedSpec)

/-- ITS FALSE NEIGHBOUR: 'it returns false'. Refute it at one input. -/
def graphTurnedWrong : ChangeSpec := { name := "graphTurned", fn := fun _ => fun
  | [d1, d2] => { results := [.lit (.bool false)], args := [d1, d2] }
  | _ => none }
def GraphTurnedWrongFalsely : Prop := graphTurnedRow.holds Try.pinned (OpenSpec.ofChange graphTurnedWrong)

/-- 'aquiferlaw17.GraphSound': WHATEVER THE INPUT: true; the input reads as it did. -/
def graphSoundSpec : ChangeSpec := { name := "graphSound", fn := fun _ => fun
  | [d1, d2] => { results := [.lit (.bool true)], args := [d1, d2] }
  | _ => none }
def graphSoundRow : OpenClaim := { program := "ythfoaehjnoiniaa", sum := "0bc7d3f6c3deb4f8612e9f31d9813edcd0081f21610e405cd18e034efcfb40cf", func := "aquifer/aquiferlaw17.GraphSound", spec := "graphSound", unfollowed := true, recurses := true, apart := false }
def GraphSoundSaid : Prop := graphSoundRow.holds Try.pinned (OpenSpec.ofChange graphSoundSpec)

/-- ITS FALSE NEIGHBOUR: 'it returns false'. Refute it at one input. -/
def graphSoundWrong : ChangeSpec := { name := "graphSound", fn := fun _ => fun
  | [d1, d2] => { results := [.lit (.bool false)], args := [d1, d2] }
  | _ => none }
def GraphSoundWrongFalsely : Prop := graphSoundRow.holds Try.pinned (OpenSpec.ofChange graphSoundWrong)

/-- 'aquiferlaw14.LabelMakes': WHATEVER THE INPUT: true; the input reads as it did. -/
def labelMakesSpec : ChangeSpec := { name := "labelMakes", fn := fun _ => fun
  | [d] => { results := [.lit (.bool true)], args := [d] }
  | _ => none }
def labelMakesRow : OpenClaim := { program := "ythfoaehjnoiniaa", sum := "0bc7d3f6c3deb4f8612e9f31d9813edcd0081f21610e405cd18e034efcfb40cf", func := "aquifer/aquiferlaw14.LabelMakes", spec := "labelMakes", inPlace := ["internal/bytealg.IndexByteString"], unfollowed := true, recurses := true, apart := false }
def LabelMakesSaid : Prop := labelMakesRow.holds Try.pinned (OpenSpec.ofChange labelMakesSpec)

/-- ITS FALSE NEIGHBOUR: 'it returns false'. Refute it at one input. -/
def labelMakesWrong : ChangeSpec := { name := "labelMakes", fn := fun _ => fun
  | [d] => { results := [.lit (.bool false)], args := [d] }
  | _ => none }
def LabelMakesWrongFalsely : Prop := labelMakesRow.holds Try.pinned (OpenSpec.ofChange labelMakesWrong)

/-- 'aquiferlaw14.LabelReads': WHATEVER THE INPUT: true; the input reads as it did. -/
def labelReadsSpec : ChangeSpec := { name := "labelReads", fn := fun _ => fun
  | [d1, d2] => { results := [.lit (.bool true)], args := [d1, d2] }
  | _ => none }
def labelReadsRow : OpenClaim := { program := "ythfoaehjnoiniaa", sum := "0bc7d3f6c3deb4f8612e9f31d9813edcd0081f21610e405cd18e034efcfb40cf", func := "aquifer/aquiferlaw14.LabelReads", spec := "labelReads", inPlace := ["internal/bytealg.IndexByteString"], unfollowed := true, recurses := true, apart := false }
def LabelReadsSaid : Prop := labelReadsRow.holds Try.pinned (OpenSpec.ofChange labelReadsSpec)

/-- ITS FALSE NEIGHBOUR: 'it returns false'. Refute it at one input. -/
def labelReadsWrong : ChangeSpec := { name := "labelReads", fn := fun _ => fun
  | [d1, d2] => { results := [.lit (.bool false)], args := [d1, d2] }
  | _ => none }
def LabelReadsWrongFalsely : Prop := labelReadsRow.holds Try.pinned (OpenSpec.ofChange labelReadsWrong)

/-- 'aquiferlaw14.LabelOrders': WHATEVER THE INPUT: true; the input reads as it did. -/
def labelOrdersSpec : ChangeSpec := { name := "labelOrders", fn := fun _ => fun
  | [d] => { results := [.lit (.bool true)], args := [d] }
  | _ => none }
def labelOrdersRow : OpenClaim := { program := "ythfoaehjnoiniaa", sum := "0bc7d3f6c3deb4f8612e9f31d9813edcd0081f21610e405cd18e034efcfb40cf", func := "aquifer/aquiferlaw14.LabelOrders", spec := "labelOrders", inPlace := ["internal/bytealg.IndexByteString"], unfollowed := true, recurses := true, apart := false }
def LabelOrdersSaid : Prop := labelOrdersRow.holds Try.pinned (OpenSpec.ofChange labelOrdersSpec)

/-- ITS FALSE NEIGHBOUR: 'it returns false'. Refute it at one input. -/
def labelOrdersWrong : ChangeSpec := { name := "labelOrders", fn := fun _ => fun
  | [d] => { results := [.lit (.bool false)], args := [d] }
  | _ => none }
def LabelOrdersWrongFalsely : Prop := labelOrdersRow.holds Try.pinned (OpenSpec.ofChange labelOrdersWrong)

/-- 'aquiferlaw14.LabelLaws': WHATEVER THE INPUT: true; the input reads as it did. -/
def labelLawsSpec : ChangeSpec := { name := "labelLaws", fn := fun _ => fun
  | [d1, d2, d3, d4] => { results := [.lit (.bool true)], args := [d1, d2, d3, d4] }
  | _ => none }
def labelLawsRow : OpenClaim := { program := "ythfoaehjnoiniaa", sum := "0bc7d3f6c3deb4f8612e9f31d9813edcd0081f21610e405cd18e034efcfb40cf", func := "aquifer/aquiferlaw14.LabelLaws", spec := "labelLaws", inPlace := ["internal/bytealg.IndexByteString"], unfollowed := true, recurses := true, apart := false }
def LabelLawsSaid : Prop := labelLawsRow.holds Try.pinned (OpenSpec.ofChange labelLawsSpec)

/-- ITS FALSE NEIGHBOUR: 'it returns false'. Refute it at one input. -/
def labelLawsWrong : ChangeSpec := { name := "labelLaws", fn := fun _ => fun
  | [d1, d2, d3, d4] => { results := [.lit (.bool false)], args := [d1, d2, d3, d4] }
  | _ => none }
def LabelLawsWrongFalsely : Prop := labelLawsRow.holds Try.pinned (OpenSpec.ofChange labelLawsWrong)

/- THE SECOND FORM. 'bulk': how many values and letters a reading holds, each counted each time it is reached (what is shared counts as often as it is met; a slice's spare places count too). A statement '..UptoSaid' is the law's where the arguments, and the package variables that the reading takes, are together of bulk at most 1048576: NARROWER than '..Said'. Prove '..Said' where nothing that the law and all that it calls make is longer than what came in: it says more and counts as full. Else prove '..UptoSaid'. A law counts once. -/
mutual
def uptoBulk {H : Type} : DataW H → Nat
  | .lit (.string bytes) => bytes.length + 1
  | .lit _ => 1
  | .nil => 1
  | .ptr d => uptoBulk d + 1
  | .slice elems spare => uptoBulkAll elems + uptoBulkAll spare + 1
  | .agg parts => uptoBulkAll parts + 1
  | .iface _ d => uptoBulk d + 1
  | .map entries => uptoBulkEntries entries + 1
  | .held _ => 1
def uptoBulkAll {H : Type} : List (DataW H) → Nat
  | [] => 0
  | d :: r => uptoBulk d + uptoBulkAll r
def uptoBulkEntries {H : Type} : List (Lit × DataW H) → Nat
  | [] => 0
  | x :: r => uptoBulkEntry x + uptoBulkEntries r
def uptoBulkEntry {H : Type} : Lit × DataW H → Nat
  | (.string bytes, d) => bytes.length + uptoBulk d + 1
  | (_, d) => uptoBulk d + 1
 end
def uptoSmall : (H : Type) → List (DataW H) → Bool := fun _ ds => decide (uptoBulkAll ds ≤ 1048576)
def OpenSpec.upto (s : _root_.Go.ChangeSpec) : _root_.Go.OpenSpec := { _root_.Go.OpenSpec.ofChange s with cond := some uptoSmall }

/-- 'aquiferlaw17.GraphTurned', WHERE WHAT IT READS IS OF BULK AT MOST 1048576: true; the input reads as it did. -/
def graphTurnedUptoRow : OpenClaim := { program := "ythfoaehjnoiniaa", sum := "0bc7d3f6c3deb4f8612e9f31d9813edcd0081f21610e405cd18e034efcfb40cf", func := "aquifer/aquiferlaw17.GraphTurned", spec := "graphTurned", unfollowed := true, recurses := true, apart := false, narrowed := true }
def GraphTurnedUptoSaid : Prop := graphTurnedUptoRow.holds Try.pinned (OpenSpec.upto graphTurnedSpec)

/-- 'aquiferlaw17.GraphSound', WHERE WHAT IT READS IS OF BULK AT MOST 1048576: true; the input reads as it did. -/
def graphSoundUptoRow : OpenClaim := { program := "ythfoaehjnoiniaa", sum := "0bc7d3f6c3deb4f8612e9f31d9813edcd0081f21610e405cd18e034efcfb40cf", func := "aquifer/aquiferlaw17.GraphSound", spec := "graphSound", unfollowed := true, recurses := true, apart := false, narrowed := true }
def GraphSoundUptoSaid : Prop := graphSoundUptoRow.holds Try.pinned (OpenSpec.upto graphSoundSpec)

/-- 'aquiferlaw14.LabelMakes', WHERE WHAT IT READS IS OF BULK AT MOST 1048576: true; the input reads as it did. -/
def labelMakesUptoRow : OpenClaim := { program := "ythfoaehjnoiniaa", sum := "0bc7d3f6c3deb4f8612e9f31d9813edcd0081f21610e405cd18e034efcfb40cf", func := "aquifer/aquiferlaw14.LabelMakes", spec := "labelMakes", inPlace := ["internal/bytealg.IndexByteString"], unfollowed := true, recurses := true, apart := false, narrowed := true }
def LabelMakesUptoSaid : Prop := labelMakesUptoRow.holds Try.pinned (OpenSpec.upto labelMakesSpec)

/-- 'aquiferlaw14.LabelReads', WHERE WHAT IT READS IS OF BULK AT MOST 1048576: true; the input reads as it did. -/
def labelReadsUptoRow : OpenClaim := { program := "ythfoaehjnoiniaa", sum := "0bc7d3f6c3deb4f8612e9f31d9813edcd0081f21610e405cd18e034efcfb40cf", func := "aquifer/aquiferlaw14.LabelReads", spec := "labelReads", inPlace := ["internal/bytealg.IndexByteString"], unfollowed := true, recurses := true, apart := false, narrowed := true }
def LabelReadsUptoSaid : Prop := labelReadsUptoRow.holds Try.pinned (OpenSpec.upto labelReadsSpec)

/-- 'aquiferlaw14.LabelOrders', WHERE WHAT IT READS IS OF BULK AT MOST 1048576: true; the input reads as it did. -/
def labelOrdersUptoRow : OpenClaim := { program := "ythfoaehjnoiniaa", sum := "0bc7d3f6c3deb4f8612e9f31d9813edcd0081f21610e405cd18e034efcfb40cf", func := "aquifer/aquiferlaw14.LabelOrders", spec := "labelOrders", inPlace := ["internal/bytealg.IndexByteString"], unfollowed := true, recurses := true, apart := false, narrowed := true }
def LabelOrdersUptoSaid : Prop := labelOrdersUptoRow.holds Try.pinned (OpenSpec.upto labelOrdersSpec)

/-- 'aquiferlaw14.LabelLaws', WHERE WHAT IT READS IS OF BULK AT MOST 1048576: true; the input reads as it did. -/
def labelLawsUptoRow : OpenClaim := { program := "ythfoaehjnoiniaa", sum := "0bc7d3f6c3deb4f8612e9f31d9813edcd0081f21610e405cd18e034efcfb40cf", func := "aquifer/aquiferlaw14.LabelLaws", spec := "labelLaws", inPlace := ["internal/bytealg.IndexByteString"], unfollowed := true, recurses := true, apart := false, narrowed := true }
def LabelLawsUptoSaid : Prop := labelLawsUptoRow.holds Try.pinned (OpenSpec.upto labelLawsSpec)

end Rows
end Go.Proofs.Ythfoaehjnoiniaa
