/- Terms: a slice literal of two terms, as a step of a region. -/
import Derived.Test.YtcegdomfmamonaaDoorTm14
import Derived.Test.YtcegdomfmamonaaDoorBaseReg
namespace Go.Proofs.YtcegdomfmamonaaDoor
open Go.RowKit Go.Emb

theorem run_build2 (w : World) (x0 x1 x2 x3 y0 y1 y2 y3 : Value) : (Instr.buildSlice 22 2 #[(0, .agg #[x0, x1, x2, x3]), (1, .agg #[y0, y1, y2, y3])]).run Tryd.prog w = .ok (.slice (some ⟨w.heap.size, 0, none⟩) 2 2) (w.alloc (.cells #[x0, x1, x2, x3, y0, y1, y2, y3] 31)) := by
  go_simp
theorem step_build2 (w : World) {ops : Array Oper} {o : Oper} {a : Act} {K : Act → World → Prop} {Q : Exit → Act → World → Prop} {X : Prop} (hw : Region.wanted o (yielded ops a.tmps) = true) (x y : Operand) (ho : o.op = .buildSlice 22 2 #[(0, x), (1, y)])
    (x0 x1 x2 x3 y0 y1 y2 y3 : Value) (hx : a.eval x = .agg #[x0, x1, x2, x3]) (hy : a.eval y = .agg #[y0, y1, y2, y3])
    (h : K (a.put o.dst (.slice (some ⟨w.heap.size, 0, none⟩) 2 2)) (w.alloc (.cells #[x0, x1, x2, x3, y0, y1, y2, y3] 31))) :
    if Region.wanted o (yielded ops a.tmps) = true then Oper.wp Tryd.prog o a w K Q else X := by
  rw [if_pos hw]
  unfold Oper.wp execOp
  simp only [ho, Sem.run_bind, Sem.run_pure, List.map_toArray, List.map_cons, List.map_nil, hx, hy, run_build2, Result.andThen_ok]
  exact h
end Go.Proofs.YtcegdomfmamonaaDoor
