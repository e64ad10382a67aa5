/- A cut that forgets scratch slots at little cost: the frame behind it is known slot by slot. -/
import Derived.Test.YtdeghoigpcbmcaaBase2
import Derived.Deep.Cut
namespace Go.Emb
open Go.RowKit

/-- the frame has n slots; R says what they hold (f i: slot i) -/
def CutF (n : Nat) (R : (Nat → Value) → World → Prop) (a : Act) (w : World) : Prop := a.tmps.size = n ∧ a.defers = [] ∧ R (fun i => a.tmps.getD i undef) w
theorem CutF.lit {n : Nat} {R : (Nat → Value) → World → Prop} {a : Act} {w : World} (h : CutF n R a w) : ∃ f : Nat → Value, a = ⟨((List.range n).map f).toArray, []⟩ ∧ R f w := by
  obtain ⟨h1, h2, h3⟩ := h
  refine ⟨_, ?_, h3⟩
  obtain ⟨t, d⟩ := a
  simp only at h1 h2
  subst h2
  congr 1
  apply Array.ext
  · simp [h1]
  · intro i hi1 hi2
    simp only [Array.getD, hi1, dif_pos, List.getElem_toArray, List.getElem_map, List.getElem_range]
    rfl
theorem CutF.mk {n : Nat} {R : (Nat → Value) → World → Prop} {t : Array Value} {w : World} (h1 : t.size = n) (h3 : R (fun i => t.getD i undef) w) : CutF n R ⟨t, []⟩ w := ⟨h1, rfl, h3⟩
end Go.Emb
