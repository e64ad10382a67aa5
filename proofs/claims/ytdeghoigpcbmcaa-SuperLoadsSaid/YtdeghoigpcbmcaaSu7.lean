/- Super: the disk: Dead (a select with a default, over a channel that is open or closed). -/
import Derived.Test.YtdeghoigpcbmcaaSu6
import Derived.Conc.LoneSelect
namespace Go.Proofs.Ytdeghoigpcbmcaa
open Go.RowKit Go.Emb Go.Conc

/-- a disk's record -/
def dkCells (sz : Nat) (bv lv : Value) (left : Int) (c : Nat) : Array Value := #[.int .i64 sz, bv, lv, .int .i64 left, .chan (some c)]
theorem dk_cells {w : World} {q sz c : Nat} {bv lv : Value} {left : Int} {t : TypeId} (h : w.heap[q]? = some (.cells (dkCells sz bv lv left c) t (0, 0))) :
    w.cell? ⟨q, 0, none⟩ = some (.int .i64 sz) ∧ w.cell? ⟨q, 1, none⟩ = some bv ∧ w.cell? ⟨q, 2, none⟩ = some lv ∧ w.cell? ⟨q, 3, none⟩ = some (.int .i64 left) ∧ w.cell? ⟨q, 4, none⟩ = some (.chan (some c)) := by
  refine ⟨?_, ?_, ?_, ?_, ?_⟩ <;> simp [World.cell?, h, dkCells]

set_option maxRecDepth 100000 in
theorem p_dead {w : World} {q sz c s r : Nat} {bv lv : Value} {left : Int} {t : TypeId} {off : Bool} (h : w.heap[q]? = some (.cells (dkCells sz bv lv left c) t (0, 0))) (hc : w.heap[c]? = some (.chan 0 #[] off s r false)) :
    Calls Try.prog 32 #[.pointer (some ⟨q, 0, none⟩)] w fun e w' => e = .returned (.bool off) ∧ w = w' := by
  obtain ⟨c0, c1, c2, c3, c4⟩ := dk_cells h
  clear h
  refine calls_of_loneTo fun cs => ?_
  have e : Frame.enter Try.prog 32 #[.pointer (some ⟨q, 0, none⟩)] .normal = (base 32).at ⟨#[.pointer (some ⟨q, 0, none⟩), undef, undef, undef, undef, undef, undef, undef, undef, undef, undef, undef], []⟩ [.code (Try.f32.body.getD .skip)] := by
    simp [Frame.enter, Frame.at, Try.func32, base, Try.f32]
  rw [e]
  refine LoneTo.goes (n := 22) ?_
  simp only [Try.f32, Option.getD_some]
  s_c stepG_seq
  s_reg
  s_op
  s_c stepG_region_end
  s_c stepG_seq
  s_c stepG_seq
  s_reg
  s_op
  s_op
  s_c stepG_region_end
  s_cond false
  s_c stepG_skip
  s_c stepG_seq
  s_reg
  s_op
  s_op
  s_op
  s_op
  s_c stepG_region_end
  s_c stepG_seq
  s_reg
  s_stop
  cases off with
  | false =>
    refine LoneTo.step (step_lone_select_default (c := c) (z := .agg #[]) (cap := 0) (s := s) (r := r) (tm := false) (stepG_comm (cases := #[rcase c (.agg #[])]) (blocking := false) (shape := .select) (w' := w) rfl rfl (by decide) (by simp [go_sem, execOp, rcase, Act.eval])) hc) ?_
    rw [Frame.finish_at]
    walk_nrm
    refine LoneTo.goes (n := 10) ?_
    s_op
    s_op
    s_c stepG_region_end
    s_c stepG_block
    s_cond false
    s_c stepG_seq
    s_reg
    s_op
    s_c stepG_region_end
    s_c stepG_ret'
    s_stop
    refine LoneTo.done ⟨.returned (.bool false), _, rfl, ⟨rfl, rfl⟩, rfl, rfl, rfl, rfl, _, Try.func32, by simp [results, Try.f32, Frame.at]⟩
  | true =>
    refine LoneTo.step (step_lone_select_recv_shut (c := c) (z := .agg #[]) (cap := 0) (s := s) (r := r) (tm := false) (stepG_comm (cases := #[rcase c (.agg #[])]) (blocking := false) (shape := .select) (w' := w) rfl rfl (by decide) (by simp [go_sem, execOp, rcase, Act.eval])) hc) ?_
    rw [Frame.finish_at]
    walk_nrm
    refine LoneTo.goes (n := 10) ?_
    s_op
    s_op
    s_c stepG_region_end
    s_c stepG_block
    s_cond true
    s_c stepG_seq
    s_reg
    s_op
    s_c stepG_region_end
    s_c stepG_ret'
    s_stop
    refine LoneTo.done ⟨.returned (.bool true), _, rfl, ⟨rfl, rfl⟩, rfl, rfl, rfl, rfl, _, Try.func32, by simp [results, Try.f32, Frame.at]⟩
end Go.Proofs.Ytdeghoigpcbmcaa
