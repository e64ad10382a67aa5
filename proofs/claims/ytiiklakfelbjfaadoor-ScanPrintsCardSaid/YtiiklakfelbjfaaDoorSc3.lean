/- Scanning: Word, sign (the program's). -/
import Derived.Test.YtiiklakfelbjfaaDoorSc2
namespace Go.Proofs.YtiiklakfelbjfaaDoor
open Go.RowKit Go.Emb
set_option maxHeartbeats 1000000 in
theorem p_word (s : ByteArray) (w : World) : Calls Tryd.prog 12 #[.string s] w fun e w' => e = .returned (.bool (wordsS.contains s.data.toList)) ∧ w = w' := by
  go_enter Tryd.func12, Tryd.ntmps12
  go_wp2_with fail
  all_goals
    first
      | (exfalso; rename_i ha hb; rw [ha] at hb; cases hb; done)
      | (refine bodyPost_ret (results_tmp rfl _ _ _) rfl ⟨?_, rfl⟩
         simp only [Go.ByteArray.toList_eq] at *
         simp only [wordsS, List.contains_cons, *, Bool.or_true, Bool.true_or, Bool.or_false, Bool.false_or, List.contains_nil]
         rfl)
end Go.Proofs.YtiiklakfelbjfaaDoor
