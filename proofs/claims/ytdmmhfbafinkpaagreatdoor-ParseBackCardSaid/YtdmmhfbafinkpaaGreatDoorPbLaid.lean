import Derived.Test.YtdmmhfbafinkpaaGreatDoorPaLaid
import Derived.Test.YtdmmhfbafinkpaaGreatDoorSc13
/- ParseBack: the table of powers that the rows lay. (The frame follows the kit's worked proof of a listed table.) -/
namespace Go.Proofs.YtdmmhfbafinkpaaGreatDoor
open Go.ChangeShapes Go.WideShapes Go.ChangeAt Go.RowKit Go.Emb
theorem gTab : Tryz.prog.globalNamed "internal/strconv.uint64pow10" = some 1 := by kernel_rfl
theorem tTab : (Tryz.prog.globals[1]?).map (·.type) = some 138 := by kernel_rfl
theorem tab_of_laid {W : World} (h : laidMetH Tryz.prog laid5 W) : TabOk W.heap.size W := by
  rw [MakeChecks.laidMetH_plain _ _ _ (by kernel_rfl)] at h
  obtain ⟨ps, ⟨g0, t0, cs0, f0, p0, q0, _, _, _, _, ⟨g1, t1, cs1, f1, p1, q1, _, _, _, _, ⟨g2, t2, cs, fuel, p, q, hg, ht, hvar, hd, _, _⟩, _⟩, _⟩, _⟩ := h
  obtain rfl := Option.some.inj (gTab.symm.trans hg)
  obtain rfl := Option.some.inj (tTab.symm.trans ht)
  have htab : Lib.TabIs Tryz.prog W "internal/strconv.uint64pow10" .u64 Lib.pow10Tab := by
    unfold Lib.TabIs
    rw [hvar, ← Lib.cells_of_tab (k := .u64) (zs := Lib.pow10Tab) Tryz.underlying138 Tryz.underlying117 (by kernel_rfl) (by kernel_rfl) hd]
  refine ⟨htab, ?_, Nat.le_refl _⟩
  have := htab.cell gTab 0 (by decide)
  exact World.block_lt_of_cell? _ _ this
/-- all that the walks need of the variables -/
def VarT (w : World) : Prop := VarOk w ∧ ∃ B, TabOk B w
theorem VarT.keep {w w' : World} (h : VarT w) (hk : Keep [] w w') : VarT w' := ⟨h.1.keep hk, by obtain ⟨B, hb⟩ := h.2; exact ⟨B, hb.keep0 hk⟩⟩
theorem vars_of_laid {W : World} (h : laidMetH Tryz.prog laid5 W) : VarT W := ⟨ok_of_laid h, _, tab_of_laid h⟩
end Go.Proofs.YtdmmhfbafinkpaaGreatDoor
