/-
  No cell of these rows narrows 'for every input' (looked for: loops, veiled, ifaces, maps, wideKeys, modest, calm, conditions, laid).
  DERIVED. THE GIVEN ROWS OF THIS SEAT. 6 by the template 'for every input the law returns true; each argument reads behind the call as it read before'; 0 by the template 'total and deterministic' (their statements: YtlfhnbdeadiedaaTotals.lean).
  GIVEN WITH THE SEED: the statements are not yours to turn. If you find one false, say at which input.
  Laid BY PROGRAM, IN A SANDBOX (cutbox-rows.mjs): the forced cells as the released guide's own fill.sh prints them over the translation 4419313a039f5825… (all of the seat's roots in one cut). By AI agents, Wed Nov 11 2026. No macro, syntax, notation, axiom, sorry.
-/
import Derived.Test.YtlfhnbdeadiedaaChecked
import GoSem.Claim
import GoSem.ClaimJoined
import GoSem.ClaimMapViews
import Derived.JoinedTies
import Derived.KernelRfl
namespace Go.Proofs.Ytlfhnbdeadiedaa
/- THE CELL 'sum', in the pinned program and in every row, IS THE sha256 OF THE DUMP (.gsa) THAT YtlfhnbdeadiedaaProg.lean LOADS. Nothing in Lean hashes anything: it is a label: what it is worth is what the hold of that sum in a sandbox is worth. -/
noncomputable def Try.pinned : Pinned := { name := "ytlfhnbdeadiedaa", sum := "4419313a039f5825f946f11d5b31850b65c6e0fbc6dcd2369826c9057aaed9d4", checked := Try.checked }
namespace Rows
def none {H : Type} : Left H := { results := [], args := [] }

/-- 'emberslaw05.ExtentTakes': WHATEVER THE INPUT: true; the input reads as it did. -/
def extentTakesSpec : ChangeSpec := { name := "extentTakes", fn := fun _ => fun
  | [d1, d2, d3] => { results := [.lit (.bool true)], args := [d1, d2, d3] }
  | _ => none }
def extentTakesRow : OpenClaim := { program := "ytlfhnbdeadiedaa", sum := "4419313a039f5825f946f11d5b31850b65c6e0fbc6dcd2369826c9057aaed9d4", func := "embers/emberslaw05.ExtentTakes", spec := "extentTakes", unfollowed := true, recurses := true, apart := false }
def ExtentTakesSaid : Prop := extentTakesRow.holds Try.pinned (OpenSpec.ofChange extentTakesSpec)

/-- ITS FALSE NEIGHBOUR: 'it returns false'. Refute it at one input. -/
def extentTakesWrong : ChangeSpec := { name := "extentTakes", fn := fun _ => fun
  | [d1, d2, d3] => { results := [.lit (.bool false)], args := [d1, d2, d3] }
  | _ => none }
def ExtentTakesWrongFalsely : Prop := extentTakesRow.holds Try.pinned (OpenSpec.ofChange extentTakesWrong)

/-- 'emberslaw05.ExtentWhole': WHATEVER THE INPUT: true; the input reads as it did. -/
def extentWholeSpec : ChangeSpec := { name := "extentWhole", fn := fun _ => fun
  | [d1, d2, d3, d4] => { results := [.lit (.bool true)], args := [d1, d2, d3, d4] }
  | _ => none }
def extentWholeRow : OpenClaim := { program := "ytlfhnbdeadiedaa", sum := "4419313a039f5825f946f11d5b31850b65c6e0fbc6dcd2369826c9057aaed9d4", func := "embers/emberslaw05.ExtentWhole", spec := "extentWhole", unfollowed := true, recurses := true, apart := false }
def ExtentWholeSaid : Prop := extentWholeRow.holds Try.pinned (OpenSpec.ofChange extentWholeSpec)

/-- ITS FALSE NEIGHBOUR: 'it returns false'. Refute it at one input. -/
def extentWholeWrong : ChangeSpec := { name := "extentWhole", fn := fun _ => fun
  | [d1, d2, d3, d4] => { results := [.lit (.bool false)], args := [d1, d2, d3, d4] }
  | _ => none }
def ExtentWholeWrongFalsely : Prop := extentWholeRow.holds Try.pinned (OpenSpec.ofChange extentWholeWrong)

/-- 'emberslaw05.ExtentOrder': WHATEVER THE INPUT: true; the input reads as it did. -/
def extentOrderSpec : ChangeSpec := { name := "extentOrder", fn := fun _ => fun
  | [d1, d2] => { results := [.lit (.bool true)], args := [d1, d2] }
  | _ => none }
def extentOrderRow : OpenClaim := { program := "ytlfhnbdeadiedaa", sum := "4419313a039f5825f946f11d5b31850b65c6e0fbc6dcd2369826c9057aaed9d4", func := "embers/emberslaw05.ExtentOrder", spec := "extentOrder", unfollowed := true, recurses := true, apart := false }
def ExtentOrderSaid : Prop := extentOrderRow.holds Try.pinned (OpenSpec.ofChange extentOrderSpec)

/-- ITS FALSE NEIGHBOUR: 'it returns false'. Refute it at one input. -/
def extentOrderWrong : ChangeSpec := { name := "extentOrder", fn := fun _ => fun
  | [d1, d2] => { results := [.lit (.bool false)], args := [d1, d2] }
  | _ => none }
def ExtentOrderWrongFalsely : Prop := extentOrderRow.holds Try.pinned (OpenSpec.ofChange extentOrderWrong)

/-- 'emberslaw05.ExtentFirst': WHATEVER THE INPUT: true; the input reads as it did. -/
def extentFirstSpec : ChangeSpec := { name := "extentFirst", fn := fun _ => fun
  | [d1, d2] => { results := [.lit (.bool true)], args := [d1, d2] }
  | _ => none }
def extentFirstRow : OpenClaim := { program := "ytlfhnbdeadiedaa", sum := "4419313a039f5825f946f11d5b31850b65c6e0fbc6dcd2369826c9057aaed9d4", func := "embers/emberslaw05.ExtentFirst", spec := "extentFirst", unfollowed := true, recurses := true, apart := false }
def ExtentFirstSaid : Prop := extentFirstRow.holds Try.pinned (OpenSpec.ofChange extentFirstSpec)

/-- ITS FALSE NEIGHBOUR: 'it returns false'. Refute it at one input. -/
def extentFirstWrong : ChangeSpec := { name := "extentFirst", fn := fun _ => fun
  | [d1, d2] => { results := [.lit (.bool false)], args := [d1, d2] }
  | _ => none }
def ExtentFirstWrongFalsely : Prop := extentFirstRow.holds Try.pinned (OpenSpec.ofChange extentFirstWrong)

/-- 'emberslaw05.ExtentFree': WHATEVER THE INPUT: true; the input reads as it did. -/
def extentFreeSpec : ChangeSpec := { name := "extentFree", fn := fun _ => fun
  | [d1, d2, d3, d4, d5] => { results := [.lit (.bool true)], args := [d1, d2, d3, d4, d5] }
  | _ => none }
def extentFreeRow : OpenClaim := { program := "ytlfhnbdeadiedaa", sum := "4419313a039f5825f946f11d5b31850b65c6e0fbc6dcd2369826c9057aaed9d4", func := "embers/emberslaw05.ExtentFree", spec := "extentFree", unfollowed := true, recurses := true, apart := false }
def ExtentFreeSaid : Prop := extentFreeRow.holds Try.pinned (OpenSpec.ofChange extentFreeSpec)

/-- ITS FALSE NEIGHBOUR: 'it returns false'. Refute it at one input. -/
def extentFreeWrong : ChangeSpec := { name := "extentFree", fn := fun _ => fun
  | [d1, d2, d3, d4, d5] => { results := [.lit (.bool false)], args := [d1, d2, d3, d4, d5] }
  | _ => none }
def ExtentFreeWrongFalsely : Prop := extentFreeRow.holds Try.pinned (OpenSpec.ofChange extentFreeWrong)

/-- 'emberslaw05.ExtentNeeds': WHATEVER THE INPUT: true; the input reads as it did. -/
def extentNeedsSpec : ChangeSpec := { name := "extentNeeds", fn := fun _ => fun
  | [d1, d2, d3] => { results := [.lit (.bool true)], args := [d1, d2, d3] }
  | _ => none }
def extentNeedsRow : OpenClaim := { program := "ytlfhnbdeadiedaa", sum := "4419313a039f5825f946f11d5b31850b65c6e0fbc6dcd2369826c9057aaed9d4", func := "embers/emberslaw05.ExtentNeeds", spec := "extentNeeds", unfollowed := true, recurses := true, apart := false }
def ExtentNeedsSaid : Prop := extentNeedsRow.holds Try.pinned (OpenSpec.ofChange extentNeedsSpec)

/-- ITS FALSE NEIGHBOUR: 'it returns false'. Refute it at one input. -/
def extentNeedsWrong : ChangeSpec := { name := "extentNeeds", fn := fun _ => fun
  | [d1, d2, d3] => { results := [.lit (.bool false)], args := [d1, d2, d3] }
  | _ => none }
def ExtentNeedsWrongFalsely : Prop := extentNeedsRow.holds Try.pinned (OpenSpec.ofChange extentNeedsWrong)

/- THE SECOND FORM. 'bulk': how many values and letters a reading holds, each counted each time it is reached (what is shared counts as often as it is met; a slice's spare places count too). A statement '..UptoSaid' is the law's where the arguments, and the package variables that the reading takes, are together of bulk at most 1048576: NARROWER than '..Said'. Prove '..Said' where nothing that the law and all that it calls make is longer than what came in: it says more and counts as full. Else prove '..UptoSaid'. A law counts once. -/
mutual
def uptoBulk {H : Type} : DataW H → Nat
  | .lit (.string bytes) => bytes.length + 1
  | .lit _ => 1
  | .nil => 1
  | .ptr d => uptoBulk d + 1
  | .slice elems spare => uptoBulkAll elems + uptoBulkAll spare + 1
  | .agg parts => uptoBulkAll parts + 1
  | .iface _ d => uptoBulk d + 1
  | .map entries => uptoBulkEntries entries + 1
  | .held _ => 1
def uptoBulkAll {H : Type} : List (DataW H) → Nat
  | [] => 0
  | d :: r => uptoBulk d + uptoBulkAll r
def uptoBulkEntries {H : Type} : List (Lit × DataW H) → Nat
  | [] => 0
  | x :: r => uptoBulkEntry x + uptoBulkEntries r
def uptoBulkEntry {H : Type} : Lit × DataW H → Nat
  | (.string bytes, d) => bytes.length + uptoBulk d + 1
  | (_, d) => uptoBulk d + 1
 end
def uptoSmall : (H : Type) → List (DataW H) → Bool := fun _ ds => decide (uptoBulkAll ds ≤ 1048576)
def OpenSpec.upto (s : _root_.Go.ChangeSpec) : _root_.Go.OpenSpec := { _root_.Go.OpenSpec.ofChange s with cond := some uptoSmall }

/-- 'emberslaw05.ExtentTakes', WHERE WHAT IT READS IS OF BULK AT MOST 1048576: true; the input reads as it did. -/
def extentTakesUptoRow : OpenClaim := { program := "ytlfhnbdeadiedaa", sum := "4419313a039f5825f946f11d5b31850b65c6e0fbc6dcd2369826c9057aaed9d4", func := "embers/emberslaw05.ExtentTakes", spec := "extentTakes", unfollowed := true, recurses := true, apart := false, narrowed := true }
def ExtentTakesUptoSaid : Prop := extentTakesUptoRow.holds Try.pinned (OpenSpec.upto extentTakesSpec)

/-- 'emberslaw05.ExtentWhole', WHERE WHAT IT READS IS OF BULK AT MOST 1048576: true; the input reads as it did. -/
def extentWholeUptoRow : OpenClaim := { program := "ytlfhnbdeadiedaa", sum := "4419313a039f5825f946f11d5b31850b65c6e0fbc6dcd2369826c9057aaed9d4", func := "embers/emberslaw05.ExtentWhole", spec := "extentWhole", unfollowed := true, recurses := true, apart := false, narrowed := true }
def ExtentWholeUptoSaid : Prop := extentWholeUptoRow.holds Try.pinned (OpenSpec.upto extentWholeSpec)

/-- 'emberslaw05.ExtentOrder', WHERE WHAT IT READS IS OF BULK AT MOST 1048576: true; the input reads as it did. -/
def extentOrderUptoRow : OpenClaim := { program := "ytlfhnbdeadiedaa", sum := "4419313a039f5825f946f11d5b31850b65c6e0fbc6dcd2369826c9057aaed9d4", func := "embers/emberslaw05.ExtentOrder", spec := "extentOrder", unfollowed := true, recurses := true, apart := false, narrowed := true }
def ExtentOrderUptoSaid : Prop := extentOrderUptoRow.holds Try.pinned (OpenSpec.upto extentOrderSpec)

/-- 'emberslaw05.ExtentFirst', WHERE WHAT IT READS IS OF BULK AT MOST 1048576: true; the input reads as it did. -/
def extentFirstUptoRow : OpenClaim := { program := "ytlfhnbdeadiedaa", sum := "4419313a039f5825f946f11d5b31850b65c6e0fbc6dcd2369826c9057aaed9d4", func := "embers/emberslaw05.ExtentFirst", spec := "extentFirst", unfollowed := true, recurses := true, apart := false, narrowed := true }
def ExtentFirstUptoSaid : Prop := extentFirstUptoRow.holds Try.pinned (OpenSpec.upto extentFirstSpec)

/-- 'emberslaw05.ExtentFree', WHERE WHAT IT READS IS OF BULK AT MOST 1048576: true; the input reads as it did. -/
def extentFreeUptoRow : OpenClaim := { program := "ytlfhnbdeadiedaa", sum := "4419313a039f5825f946f11d5b31850b65c6e0fbc6dcd2369826c9057aaed9d4", func := "embers/emberslaw05.ExtentFree", spec := "extentFree", unfollowed := true, recurses := true, apart := false, narrowed := true }
def ExtentFreeUptoSaid : Prop := extentFreeUptoRow.holds Try.pinned (OpenSpec.upto extentFreeSpec)

/-- 'emberslaw05.ExtentNeeds', WHERE WHAT IT READS IS OF BULK AT MOST 1048576: true; the input reads as it did. -/
def extentNeedsUptoRow : OpenClaim := { program := "ytlfhnbdeadiedaa", sum := "4419313a039f5825f946f11d5b31850b65c6e0fbc6dcd2369826c9057aaed9d4", func := "embers/emberslaw05.ExtentNeeds", spec := "extentNeeds", unfollowed := true, recurses := true, apart := false, narrowed := true }
def ExtentNeedsUptoSaid : Prop := extentNeedsUptoRow.holds Try.pinned (OpenSpec.upto extentNeedsSpec)

end Rows
end Go.Proofs.Ytlfhnbdeadiedaa
