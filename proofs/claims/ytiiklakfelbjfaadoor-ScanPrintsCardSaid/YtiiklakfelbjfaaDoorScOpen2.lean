/- Scanning: the tokens that came in, opened. -/
import Derived.Test.YtiiklakfelbjfaaDoorScOpen
import Derived.Test.YtiiklakfelbjfaaDoorSc14
namespace Go.Proofs.YtiiklakfelbjfaaDoor
open Go.ChangeShapes Go.WideShapes Go.Deep Go.RowKit Go.Emb
section
variable {H : Type} {enc : TypeId × Value → H} {W : World}
theorem o_cellsT : Tryd.prog.cellsOf 30 = 5 := by kernel_rfl
theorem o_cellsI64 : Tryd.prog.cellsOf 2 = 1 := by kernel_rfl
theorem o_cellsS : Tryd.prog.cellsOf 9 = 1 := by kernel_rfl
theorem o_bytesT : Tryd.prog.bytesOf 30 = 48 := by kernel_rfl
instance : Inhabited TkG := ⟨⟨0, 0, ⟨#[]⟩, 0, 0⟩⟩
def TkOk (x : TkG) : Prop := (-9223372036854775808 ≤ x.n ∧ x.n ≤ 9223372036854775807) ∧ x.S.size ≤ 140737488355328
theorem open_i {n : Nat} {T : TypeId} {cs : List Value} {y : DataW H × List MemPlace} (hT : Tryd.prog.underlying T = some (.int .i64)) (h : DataW.trod enc Tryd.prog W 0 (fun _ => true) true n T cs = some y) : ∃ i : Int, cs = [.int .i64 i] ∧ (-9223372036854775808 ≤ i ∧ i ≤ 9223372036854775807) := by
  obtain ⟨i, e, -, hw⟩ := DataW.trod_int hT h
  simp [Lit.wf, IntKind.min, IntKind.max, IntKind.signed, IntKind.bits] at hw
  exact ⟨i, e, by omega⟩
set_option maxRecDepth 100000 in
theorem open_t {n : Nat} {cs : List Value} {y : DataW H × List MemPlace} (h : DataW.trod enc Tryd.prog W 0 (fun _ => true) true n 30 cs = some y) (hw : ∀ z ∈ y.1.weights Tryd.prog 30, z ≤ reachBytes) :
    ∃ x : TkG, cs = encG x ∧ TkOk x := by
  obtain ⟨xs, m, hm, hx, hcl, hxl, hf⟩ := DataW.trod_struct Tryd.underlying30 h
  rw [o_cellsT] at hcl
  subst hx
  match cs, hcl with
  | [c0, c1, c2, c3, c4], _ =>
    match xs, hxl with
    | [x0, x1, x2, x3, x4], _ =>
      have f0 : DataW.trod enc Tryd.prog W 0 (fun _ => true) true m 3 (([c0, c1, c2, c3, c4].drop 0).take (Tryd.prog.cellsOf 3)) = [x0, x1, x2, x3, x4][0]? := hf 0 _ rfl
      have f1 : DataW.trod enc Tryd.prog W 0 (fun _ => true) true m 2 (([c0, c1, c2, c3, c4].drop 1).take (Tryd.prog.cellsOf 2)) = [x0, x1, x2, x3, x4][1]? := hf 1 _ rfl
      have f2 : DataW.trod enc Tryd.prog W 0 (fun _ => true) true m 9 (([c0, c1, c2, c3, c4].drop 2).take (Tryd.prog.cellsOf 9)) = [x0, x1, x2, x3, x4][2]? := hf 2 _ rfl
      have f3 : DataW.trod enc Tryd.prog W 0 (fun _ => true) true m 3 (([c0, c1, c2, c3, c4].drop 3).take (Tryd.prog.cellsOf 3)) = [x0, x1, x2, x3, x4][3]? := hf 3 _ rfl
      have f4 : DataW.trod enc Tryd.prog W 0 (fun _ => true) true m 3 (([c0, c1, c2, c3, c4].drop 4).take (Tryd.prog.cellsOf 3)) = [x0, x1, x2, x3, x4][4]? := hf 4 _ rfl
      rw [o_cellsI] at f0 f3 f4
      rw [o_cellsI64] at f1
      rw [o_cellsS] at f2
      obtain ⟨a, e0, -⟩ := open_i Tryd.underlying3 f0
      obtain ⟨b, e1, h1⟩ := open_i Tryd.underlying2 f1
      obtain ⟨s, e2, hx2, -⟩ := DataW.trod_string Tryd.underlying9 f2
      obtain ⟨c, e3, -⟩ := open_i Tryd.underlying3 f3
      obtain ⟨d, e4, -⟩ := open_i Tryd.underlying3 f4
      simp at e0 e1 e2 e3 e4
      subst e0 e1 e2 e3 e4
      have hws : s.size ≤ 140737488355328 := by
        have := hw s.data.toList.length (by
          simp only [DataW.weights, Tryd.underlying30]
          exact DataW.weights_mem_each (j := 2) (t := 9) (d := x2.1) rfl rfl _ (by rw [hx2]; simp [DataW.weights]))
        simp only [reachBytes] at this
        have e : s.size = s.data.toList.length := by simp
        omega
      exact ⟨⟨a, b, s, c, d⟩, rfl, h1, hws⟩
theorem open_toks {v : Value} {d : DataW H} {ps : List MemPlace} (h : DataW.Trod enc Tryd.prog W 0 (fun _ => true) true 24 v d ps) (hw : ∀ z ∈ d.weights Tryd.prog 24, z ≤ reachBytes) (hv : ∃ a n c, v = .slice a n c) :
    ∃ gs : List TkG, HasG W v gs ∧ (∀ x ∈ gs, TkOk x) ∧ gs.length * 48 ≤ 140737488355328 := by
  obtain ⟨fuel, hf⟩ := h
  obtain ⟨a, n, c, rfl⟩ := hv
  have h2 : DataW.trod enc Tryd.prog W 0 (fun _ => true) true fuel 24 [.slice a n c] = some (d, ps) := by simpa [Value.cells] using hf
  cases fuel with
  | zero => simp [DataW.trod] at h2
  | succ fuel =>
    obtain ⟨l, ⟨o, h1, h1'⟩, h3, h4⟩ := open_list (α := TkG) (encA := encG) (Ok := TkOk) Tryd.underlying24 o_cellsT (by omega) (fun _ => rfl) (fun cs y h hz => open_t h hz) h2 hw
    rw [o_bytesT] at h4
    exact ⟨l, ⟨o, h1, h1'⟩, h3, by simp only [reachBytes] at h4; omega⟩
end
end Go.Proofs.YtiiklakfelbjfaaDoor
