/-
  No cell of these rows narrows 'for every input' (looked for: loops, veiled, ifaces, maps, wideKeys, modest, calm, conditions, laid).
  DERIVED. THE GIVEN ROWS OF THIS SEAT. 5 by the template 'for every input the law returns true; each argument reads behind the call as it read before'; 0 by the template 'total and deterministic' (their statements: YtngepgnmlpinaaaTotals.lean).
  GIVEN WITH THE SEED: the statements are not yours to turn. If you find one false, say at which input.
  Laid BY PROGRAM, IN A SANDBOX (cutbox-rows.mjs): the forced cells as the released guide's own fill.sh prints them over the translation ff582da3c0ef5e3b… (all of the seat's roots in one cut). By AI agents, Wed Nov 11 2026. No macro, syntax, notation, axiom, sorry.
-/
import Derived.Test.YtngepgnmlpinaaaChecked
import GoSem.Claim
import GoSem.ClaimJoined
import GoSem.ClaimMapViews
import Derived.JoinedTies
import Derived.KernelRfl
namespace Go.Proofs.Ytngepgnmlpinaaa
/- THE CELL 'sum', in the pinned program and in every row, IS THE sha256 OF THE DUMP (.gsa) THAT YtngepgnmlpinaaaProg.lean LOADS. Nothing in Lean hashes anything: it is a label: what it is worth is what the hold of that sum in a sandbox is worth. -/
noncomputable def Try.pinned : Pinned := { name := "ytngepgnmlpinaaa", sum := "ff582da3c0ef5e3b70419c3adcbac6bd56dc8a43f15080b703bb70c992e6a880", checked := Try.checked }
namespace Rows
def none {H : Type} : Left H := { results := [], args := [] }

/-- 'emberslaw23.ManifestPuts': WHATEVER THE INPUT: true; the input reads as it did. -/
def manifestPutsSpec : ChangeSpec := { name := "manifestPuts", fn := fun _ => fun
  | [d1, d2] => { results := [.lit (.bool true)], args := [d1, d2] }
  | _ => none }
def manifestPutsRow : OpenClaim := { program := "ytngepgnmlpinaaa", sum := "ff582da3c0ef5e3b70419c3adcbac6bd56dc8a43f15080b703bb70c992e6a880", func := "embers/emberslaw23.ManifestPuts", spec := "manifestPuts", unfollowed := true, recurses := true, apart := false }
def ManifestPutsSaid : Prop := manifestPutsRow.holds Try.pinned (OpenSpec.ofChange manifestPutsSpec)

/-- ITS FALSE NEIGHBOUR: 'it returns false'. Refute it at one input. -/
def manifestPutsWrong : ChangeSpec := { name := "manifestPuts", fn := fun _ => fun
  | [d1, d2] => { results := [.lit (.bool false)], args := [d1, d2] }
  | _ => none }
def ManifestPutsWrongFalsely : Prop := manifestPutsRow.holds Try.pinned (OpenSpec.ofChange manifestPutsWrong)

/-- 'emberslaw23.ManifestBack': WHATEVER THE INPUT: true; the input reads as it did. -/
def manifestBackSpec : ChangeSpec := { name := "manifestBack", fn := fun _ => fun
  | [d1, d2] => { results := [.lit (.bool true)], args := [d1, d2] }
  | _ => none }
def manifestBackRow : OpenClaim := { program := "ytngepgnmlpinaaa", sum := "ff582da3c0ef5e3b70419c3adcbac6bd56dc8a43f15080b703bb70c992e6a880", func := "embers/emberslaw23.ManifestBack", spec := "manifestBack", unfollowed := true, recurses := true, apart := false }
def ManifestBackSaid : Prop := manifestBackRow.holds Try.pinned (OpenSpec.ofChange manifestBackSpec)

/-- ITS FALSE NEIGHBOUR: 'it returns false'. Refute it at one input. -/
def manifestBackWrong : ChangeSpec := { name := "manifestBack", fn := fun _ => fun
  | [d1, d2] => { results := [.lit (.bool false)], args := [d1, d2] }
  | _ => none }
def ManifestBackWrongFalsely : Prop := manifestBackRow.holds Try.pinned (OpenSpec.ofChange manifestBackWrong)

/-- 'emberslaw23.ManifestShort': WHATEVER THE INPUT: true; the input reads as it did. -/
def manifestShortSpec : ChangeSpec := { name := "manifestShort", fn := fun _ => fun
  | [d1, d2, d3] => { results := [.lit (.bool true)], args := [d1, d2, d3] }
  | _ => none }
def manifestShortRow : OpenClaim := { program := "ytngepgnmlpinaaa", sum := "ff582da3c0ef5e3b70419c3adcbac6bd56dc8a43f15080b703bb70c992e6a880", func := "embers/emberslaw23.ManifestShort", spec := "manifestShort", unfollowed := true, recurses := true, apart := false }
def ManifestShortSaid : Prop := manifestShortRow.holds Try.pinned (OpenSpec.ofChange manifestShortSpec)

/-- ITS FALSE NEIGHBOUR: 'it returns false'. Refute it at one input. -/
def manifestShortWrong : ChangeSpec := { name := "manifestShort", fn := fun _ => fun
  | [d1, d2, d3] => { results := [.lit (.bool false)], args := [d1, d2, d3] }
  | _ => none }
def ManifestShortWrongFalsely : Prop := manifestShortRow.holds Try.pinned (OpenSpec.ofChange manifestShortWrong)

/-- 'emberslaw23.ManifestChecks': WHATEVER THE INPUT: true; the input reads as it did. -/
def manifestChecksSpec : ChangeSpec := { name := "manifestChecks", fn := fun _ => fun
  | [d1, d2, d3, d4] => { results := [.lit (.bool true)], args := [d1, d2, d3, d4] }
  | _ => none }
def manifestChecksRow : OpenClaim := { program := "ytngepgnmlpinaaa", sum := "ff582da3c0ef5e3b70419c3adcbac6bd56dc8a43f15080b703bb70c992e6a880", func := "embers/emberslaw23.ManifestChecks", spec := "manifestChecks", unfollowed := true, recurses := true, apart := false }
def ManifestChecksSaid : Prop := manifestChecksRow.holds Try.pinned (OpenSpec.ofChange manifestChecksSpec)

/-- ITS FALSE NEIGHBOUR: 'it returns false'. Refute it at one input. -/
def manifestChecksWrong : ChangeSpec := { name := "manifestChecks", fn := fun _ => fun
  | [d1, d2, d3, d4] => { results := [.lit (.bool false)], args := [d1, d2, d3, d4] }
  | _ => none }
def ManifestChecksWrongFalsely : Prop := manifestChecksRow.holds Try.pinned (OpenSpec.ofChange manifestChecksWrong)

/-- 'emberslaw23.ManifestUses': WHATEVER THE INPUT: true; the input reads as it did. -/
def manifestUsesSpec : ChangeSpec := { name := "manifestUses", fn := fun _ => fun
  | [d1, d2, d3] => { results := [.lit (.bool true)], args := [d1, d2, d3] }
  | _ => none }
def manifestUsesRow : OpenClaim := { program := "ytngepgnmlpinaaa", sum := "ff582da3c0ef5e3b70419c3adcbac6bd56dc8a43f15080b703bb70c992e6a880", func := "embers/emberslaw23.ManifestUses", spec := "manifestUses", unfollowed := true, recurses := true, apart := false }
def ManifestUsesSaid : Prop := manifestUsesRow.holds Try.pinned (OpenSpec.ofChange manifestUsesSpec)

/-- ITS FALSE NEIGHBOUR: 'it returns false'. Refute it at one input. -/
def manifestUsesWrong : ChangeSpec := { name := "manifestUses", fn := fun _ => fun
  | [d1, d2, d3] => { results := [.lit (.bool false)], args := [d1, d2, d3] }
  | _ => none }
def ManifestUsesWrongFalsely : Prop := manifestUsesRow.holds Try.pinned (OpenSpec.ofChange manifestUsesWrong)

/- THE SECOND FORM. 'bulk': how many values and letters a reading holds, each counted each time it is reached (what is shared counts as often as it is met; a slice's spare places count too). A statement '..UptoSaid' is the law's where the arguments, and the package variables that the reading takes, are together of bulk at most 1048576: NARROWER than '..Said'. Prove '..Said' where nothing that the law and all that it calls make is longer than what came in: it says more and counts as full. Else prove '..UptoSaid'. A law counts once. -/
mutual
def uptoBulk {H : Type} : DataW H → Nat
  | .lit (.string bytes) => bytes.length + 1
  | .lit _ => 1
  | .nil => 1
  | .ptr d => uptoBulk d + 1
  | .slice elems spare => uptoBulkAll elems + uptoBulkAll spare + 1
  | .agg parts => uptoBulkAll parts + 1
  | .iface _ d => uptoBulk d + 1
  | .map entries => uptoBulkEntries entries + 1
  | .held _ => 1
def uptoBulkAll {H : Type} : List (DataW H) → Nat
  | [] => 0
  | d :: r => uptoBulk d + uptoBulkAll r
def uptoBulkEntries {H : Type} : List (Lit × DataW H) → Nat
  | [] => 0
  | x :: r => uptoBulkEntry x + uptoBulkEntries r
def uptoBulkEntry {H : Type} : Lit × DataW H → Nat
  | (.string bytes, d) => bytes.length + uptoBulk d + 1
  | (_, d) => uptoBulk d + 1
 end
def uptoSmall : (H : Type) → List (DataW H) → Bool := fun _ ds => decide (uptoBulkAll ds ≤ 1048576)
def OpenSpec.upto (s : _root_.Go.ChangeSpec) : _root_.Go.OpenSpec := { _root_.Go.OpenSpec.ofChange s with cond := some uptoSmall }

/-- 'emberslaw23.ManifestPuts', WHERE WHAT IT READS IS OF BULK AT MOST 1048576: true; the input reads as it did. -/
def manifestPutsUptoRow : OpenClaim := { program := "ytngepgnmlpinaaa", sum := "ff582da3c0ef5e3b70419c3adcbac6bd56dc8a43f15080b703bb70c992e6a880", func := "embers/emberslaw23.ManifestPuts", spec := "manifestPuts", unfollowed := true, recurses := true, apart := false, narrowed := true }
def ManifestPutsUptoSaid : Prop := manifestPutsUptoRow.holds Try.pinned (OpenSpec.upto manifestPutsSpec)

/-- 'emberslaw23.ManifestBack', WHERE WHAT IT READS IS OF BULK AT MOST 1048576: true; the input reads as it did. -/
def manifestBackUptoRow : OpenClaim := { program := "ytngepgnmlpinaaa", sum := "ff582da3c0ef5e3b70419c3adcbac6bd56dc8a43f15080b703bb70c992e6a880", func := "embers/emberslaw23.ManifestBack", spec := "manifestBack", unfollowed := true, recurses := true, apart := false, narrowed := true }
def ManifestBackUptoSaid : Prop := manifestBackUptoRow.holds Try.pinned (OpenSpec.upto manifestBackSpec)

/-- 'emberslaw23.ManifestShort', WHERE WHAT IT READS IS OF BULK AT MOST 1048576: true; the input reads as it did. -/
def manifestShortUptoRow : OpenClaim := { program := "ytngepgnmlpinaaa", sum := "ff582da3c0ef5e3b70419c3adcbac6bd56dc8a43f15080b703bb70c992e6a880", func := "embers/emberslaw23.ManifestShort", spec := "manifestShort", unfollowed := true, recurses := true, apart := false, narrowed := true }
def ManifestShortUptoSaid : Prop := manifestShortUptoRow.holds Try.pinned (OpenSpec.upto manifestShortSpec)

/-- 'emberslaw23.ManifestChecks', WHERE WHAT IT READS IS OF BULK AT MOST 1048576: true; the input reads as it did. -/
def manifestChecksUptoRow : OpenClaim := { program := "ytngepgnmlpinaaa", sum := "ff582da3c0ef5e3b70419c3adcbac6bd56dc8a43f15080b703bb70c992e6a880", func := "embers/emberslaw23.ManifestChecks", spec := "manifestChecks", unfollowed := true, recurses := true, apart := false, narrowed := true }
def ManifestChecksUptoSaid : Prop := manifestChecksUptoRow.holds Try.pinned (OpenSpec.upto manifestChecksSpec)

/-- 'emberslaw23.ManifestUses', WHERE WHAT IT READS IS OF BULK AT MOST 1048576: true; the input reads as it did. -/
def manifestUsesUptoRow : OpenClaim := { program := "ytngepgnmlpinaaa", sum := "ff582da3c0ef5e3b70419c3adcbac6bd56dc8a43f15080b703bb70c992e6a880", func := "embers/emberslaw23.ManifestUses", spec := "manifestUses", unfollowed := true, recurses := true, apart := false, narrowed := true }
def ManifestUsesUptoSaid : Prop := manifestUsesUptoRow.holds Try.pinned (OpenSpec.upto manifestUsesSpec)

end Rows
end Go.Proofs.Ytngepgnmlpinaaa
