/-
  No cell of these rows narrows 'for every input' (looked for: loops, veiled, ifaces, maps, wideKeys, modest, calm, conditions, laid).
  DERIVED. THE GIVEN ROWS OF THIS SEAT. 4 by the template 'for every input the law returns true; each argument reads behind the call as it read before'; 0 by the template 'total and deterministic' (their statements: YtdeghoigpcbmcaaTotals.lean).
  GIVEN WITH THE SEED: the statements are not yours to turn. If you find one false, say at which input.
  Laid BY PROGRAM, IN A SANDBOX (cutbox-rows.mjs): the forced cells as the released guide's own fill.sh prints them over the translation 384f454a86f43d34… (all of the seat's roots in one cut). By AI agents, Wed Nov 11 2026. No macro, syntax, notation, axiom, sorry.
-/
import Derived.Test.YtdeghoigpcbmcaaChecked
import GoSem.Claim
import GoSem.ClaimJoined
import GoSem.ClaimMapViews
import Derived.JoinedTies
import Derived.KernelRfl
namespace Go.Proofs.Ytdeghoigpcbmcaa
/- THE CELL 'sum', in the pinned program and in every row, IS THE sha256 OF THE DUMP (.gsa) THAT YtdeghoigpcbmcaaProg.lean LOADS. Nothing in Lean hashes anything: it is a label: what it is worth is what the hold of that sum in a sandbox is worth. -/
noncomputable def Try.pinned : Pinned := { name := "ytdeghoigpcbmcaa", sum := "384f454a86f43d341ec5b2cde1e0fd257a1aecd9c92343dccbf505f81ea3d31b", checked := Try.checked }
namespace Rows
def none {H : Type} : Left H := { results := [], args := [] }

/-- 'emberslaw04.SuperBetter': WHATEVER THE INPUT: true; the input reads as it did. -/
def superBetterSpec : ChangeSpec := { name := "superBetter", fn := fun _ => fun
  | [d1, d2, d3] => { results := [.lit (.bool true)], args := [d1, d2, d3] }
  | _ => none }
def superBetterRow : OpenClaim := { program := "ytdeghoigpcbmcaa", sum := "384f454a86f43d341ec5b2cde1e0fd257a1aecd9c92343dccbf505f81ea3d31b", func := "embers/emberslaw04.SuperBetter", spec := "superBetter", unfollowed := true, recurses := true, apart := false }
def SuperBetterSaid : Prop := superBetterRow.holds Try.pinned (OpenSpec.ofChange superBetterSpec)

/-- ITS FALSE NEIGHBOUR: 'it returns false'. Refute it at one input. -/
def superBetterWrong : ChangeSpec := { name := "superBetter", fn := fun _ => fun
  | [d1, d2, d3] => { results := [.lit (.bool false)], args := [d1, d2, d3] }
  | _ => none }
def SuperBetterWrongFalsely : Prop := superBetterRow.holds Try.pinned (OpenSpec.ofChange superBetterWrong)

/-- 'emberslaw04.SuperSwitches': WHATEVER THE INPUT: true; the input reads as it did. -/
def superSwitchesSpec : ChangeSpec := { name := "superSwitches", fn := fun _ => fun
  | [d1, d2] => { results := [.lit (.bool true)], args := [d1, d2] }
  | _ => none }
def superSwitchesRow : OpenClaim := { program := "ytdeghoigpcbmcaa", sum := "384f454a86f43d341ec5b2cde1e0fd257a1aecd9c92343dccbf505f81ea3d31b", func := "embers/emberslaw04.SuperSwitches", spec := "superSwitches", unfollowed := true, recurses := true, apart := false }
def SuperSwitchesSaid : Prop := superSwitchesRow.holds Try.pinned (OpenSpec.ofChange superSwitchesSpec)

/-- ITS FALSE NEIGHBOUR: 'it returns false'. Refute it at one input. -/
def superSwitchesWrong : ChangeSpec := { name := "superSwitches", fn := fun _ => fun
  | [d1, d2] => { results := [.lit (.bool false)], args := [d1, d2] }
  | _ => none }
def SuperSwitchesWrongFalsely : Prop := superSwitchesRow.holds Try.pinned (OpenSpec.ofChange superSwitchesWrong)

/-- 'emberslaw04.SuperLoads': WHATEVER THE INPUT: true; the input reads as it did. -/
def superLoadsSpec : ChangeSpec := { name := "superLoads", fn := fun _ => fun
  | [d1, d2] => { results := [.lit (.bool true)], args := [d1, d2] }
  | _ => none }
def superLoadsRow : OpenClaim := { program := "ytdeghoigpcbmcaa", sum := "384f454a86f43d341ec5b2cde1e0fd257a1aecd9c92343dccbf505f81ea3d31b", func := "embers/emberslaw04.SuperLoads", spec := "superLoads", unfollowed := true, recurses := true, apart := false }
def SuperLoadsSaid : Prop := superLoadsRow.holds Try.pinned (OpenSpec.ofChange superLoadsSpec)

/-- ITS FALSE NEIGHBOUR: 'it returns false'. Refute it at one input. -/
def superLoadsWrong : ChangeSpec := { name := "superLoads", fn := fun _ => fun
  | [d1, d2] => { results := [.lit (.bool false)], args := [d1, d2] }
  | _ => none }
def SuperLoadsWrongFalsely : Prop := superLoadsRow.holds Try.pinned (OpenSpec.ofChange superLoadsWrong)

/-- 'emberslaw04.SuperNil': WHATEVER THE INPUT: true; the input reads as it did. -/
def superNilSpec : ChangeSpec := { name := "superNil", fn := fun _ => fun
  | [d1, d2] => { results := [.lit (.bool true)], args := [d1, d2] }
  | _ => none }
def superNilRow : OpenClaim := { program := "ytdeghoigpcbmcaa", sum := "384f454a86f43d341ec5b2cde1e0fd257a1aecd9c92343dccbf505f81ea3d31b", func := "embers/emberslaw04.SuperNil", spec := "superNil", unfollowed := true, recurses := true, apart := false }
def SuperNilSaid : Prop := superNilRow.holds Try.pinned (OpenSpec.ofChange superNilSpec)

/-- ITS FALSE NEIGHBOUR: 'it returns false'. Refute it at one input. -/
def superNilWrong : ChangeSpec := { name := "superNil", fn := fun _ => fun
  | [d1, d2] => { results := [.lit (.bool false)], args := [d1, d2] }
  | _ => none }
def SuperNilWrongFalsely : Prop := superNilRow.holds Try.pinned (OpenSpec.ofChange superNilWrong)

/- THE SECOND FORM. 'bulk': how many values and letters a reading holds, each counted each time it is reached (what is shared counts as often as it is met; a slice's spare places count too). A statement '..UptoSaid' is the law's where the arguments, and the package variables that the reading takes, are together of bulk at most 1048576: NARROWER than '..Said'. Prove '..Said' where nothing that the law and all that it calls make is longer than what came in: it says more and counts as full. Else prove '..UptoSaid'. A law counts once. -/
mutual
def uptoBulk {H : Type} : DataW H → Nat
  | .lit (.string bytes) => bytes.length + 1
  | .lit _ => 1
  | .nil => 1
  | .ptr d => uptoBulk d + 1
  | .slice elems spare => uptoBulkAll elems + uptoBulkAll spare + 1
  | .agg parts => uptoBulkAll parts + 1
  | .iface _ d => uptoBulk d + 1
  | .map entries => uptoBulkEntries entries + 1
  | .held _ => 1
def uptoBulkAll {H : Type} : List (DataW H) → Nat
  | [] => 0
  | d :: r => uptoBulk d + uptoBulkAll r
def uptoBulkEntries {H : Type} : List (Lit × DataW H) → Nat
  | [] => 0
  | x :: r => uptoBulkEntry x + uptoBulkEntries r
def uptoBulkEntry {H : Type} : Lit × DataW H → Nat
  | (.string bytes, d) => bytes.length + uptoBulk d + 1
  | (_, d) => uptoBulk d + 1
 end
def uptoSmall : (H : Type) → List (DataW H) → Bool := fun _ ds => decide (uptoBulkAll ds ≤ 1048576)
def OpenSpec.upto (s : _root_.Go.ChangeSpec) : _root_.Go.OpenSpec := { _root_.Go.OpenSpec.ofChange s with cond := some uptoSmall }

/-- 'emberslaw04.SuperBetter', WHERE WHAT IT READS IS OF BULK AT MOST 1048576: true; the input reads as it did. -/
def superBetterUptoRow : OpenClaim := { program := "ytdeghoigpcbmcaa", sum := "384f454a86f43d341ec5b2cde1e0fd257a1aecd9c92343dccbf505f81ea3d31b", func := "embers/emberslaw04.SuperBetter", spec := "superBetter", unfollowed := true, recurses := true, apart := false, narrowed := true }
def SuperBetterUptoSaid : Prop := superBetterUptoRow.holds Try.pinned (OpenSpec.upto superBetterSpec)

/-- 'emberslaw04.SuperSwitches', WHERE WHAT IT READS IS OF BULK AT MOST 1048576: true; the input reads as it did. -/
def superSwitchesUptoRow : OpenClaim := { program := "ytdeghoigpcbmcaa", sum := "384f454a86f43d341ec5b2cde1e0fd257a1aecd9c92343dccbf505f81ea3d31b", func := "embers/emberslaw04.SuperSwitches", spec := "superSwitches", unfollowed := true, recurses := true, apart := false, narrowed := true }
def SuperSwitchesUptoSaid : Prop := superSwitchesUptoRow.holds Try.pinned (OpenSpec.upto superSwitchesSpec)

/-- 'emberslaw04.SuperLoads', WHERE WHAT IT READS IS OF BULK AT MOST 1048576: true; the input reads as it did. -/
def superLoadsUptoRow : OpenClaim := { program := "ytdeghoigpcbmcaa", sum := "384f454a86f43d341ec5b2cde1e0fd257a1aecd9c92343dccbf505f81ea3d31b", func := "embers/emberslaw04.SuperLoads", spec := "superLoads", unfollowed := true, recurses := true, apart := false, narrowed := true }
def SuperLoadsUptoSaid : Prop := superLoadsUptoRow.holds Try.pinned (OpenSpec.upto superLoadsSpec)

/-- 'emberslaw04.SuperNil', WHERE WHAT IT READS IS OF BULK AT MOST 1048576: true; the input reads as it did. -/
def superNilUptoRow : OpenClaim := { program := "ytdeghoigpcbmcaa", sum := "384f454a86f43d341ec5b2cde1e0fd257a1aecd9c92343dccbf505f81ea3d31b", func := "embers/emberslaw04.SuperNil", spec := "superNil", unfollowed := true, recurses := true, apart := false, narrowed := true }
def SuperNilUptoSaid : Prop := superNilUptoRow.holds Try.pinned (OpenSpec.upto superNilSpec)

end Rows
end Go.Proofs.Ytdeghoigpcbmcaa
