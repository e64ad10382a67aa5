/- The variables that the rows lay: what the walks need of them. (The frame follows the kit's worked proof of a listed table.) -/
import Derived.Test.YtiiklakfelbjfaaDoorRows
import Derived.Test.YtiiklakfelbjfaaDoorSc10
import Derived.ProofKit
import Derived.LaidMore
import Derived.OpenShut
import Derived.Stop.Joined
import Derived.Lib.LaidTab
namespace Go.Proofs.YtiiklakfelbjfaaDoor
open Go.ChangeShapes Go.WideShapes Go.ChangeAt Go.RowKit Go.Emb

theorem own : ownKnob Tryd.prog.godebug = none := by kernel_rfl
theorem laidOut : laidOutB Tryd.prog = true := by kernel_rfl
def laid5 : List (String × DataW Unit) := [("math/bits.deBruijn32tab", Rows.laid_math_bits_deBruijn32tab), ("math/bits.deBruijn64tab", Rows.laid_math_bits_deBruijn64tab), ("internal/strconv.uint64pow10", Rows.laid_internal_strconv_uint64pow10), ("strconv.ErrRange", Rows.laid_strconv_ErrRange), ("strconv.ErrSyntax", Rows.laid_strconv_ErrSyntax)]
theorem door_met (os : Os) (args : Array Value) : laidMetH Tryd.prog laid5 ((World.doorLaid Tryd.prog 400 os).forCall (fun _ _ => 0) ⟨#[], args, []⟩).memory :=
  laidMetH_of_parts3 (fuel := 8) (laidMet_of_run' 8 (by kernel_rfl) (by kernel_rfl)) (by kernel_rfl) (by kernel_rfl)
theorem gErr : Tryd.prog.globalNamed "strconv.ErrRange" = some 3 := by kernel_rfl
theorem tErr : (Tryd.prog.globals[3]?).map (·.type) = some 55 := by kernel_rfl
theorem err_of_laid {W : World} (h : laidMetH Tryd.prog laid5 W) : ErrOk W := by
  rw [MakeChecks.laidMetH_plain _ _ _ (by kernel_rfl)] at h
  obtain ⟨ps, ⟨g0, t0, cs0, f0, p0, q0, _, _, _, _, ⟨g1, t1, cs1, f1, p1, q1, _, _, _, _, ⟨g2, t2, cs, fuel, p, q, hg, ht, hvar, hd, ⟨g3, t3, cs3, f3, p3, q3, hg3, ht3, hvar3, hd3, _, _⟩, _⟩, _⟩, _⟩, _⟩ := h
  obtain rfl := Option.some.inj (gErr.symm.trans hg3)
  obtain rfl := Option.some.inj (tErr.symm.trans ht3)
  obtain ⟨_, u, v, hcs, -, -⟩ := iface_of_trod Tryd.underlying55 hd3
  have h0 := World.var?_cell gErr hvar3 0
  rw [show cs3 = #[.iface u v] from by cases cs3; simpa using hcs] at h0
  exact ⟨.iface u v, by simpa using h0, .inr ⟨u, v, rfl⟩⟩
end Go.Proofs.YtiiklakfelbjfaaDoor
