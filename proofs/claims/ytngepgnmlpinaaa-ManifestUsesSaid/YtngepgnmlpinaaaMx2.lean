/- (of XExt, by exm.py) Extents: contracts, continued: Has, Need, Extents, num. -/
import Derived.Test.YtngepgnmlpinaaaMx1
import Derived.IntWalk
namespace Go.Emb
set_option maxRecDepth 100000 in
theorem Keep.cellOf {w W : World} (hk : Keep [] w W) {p : Addr} {v : Value} (hc : w.cell? p = some v) : W.cell? p = some v :=
  (hk.cell (p := p) (World.block_lt_of_cell? _ _ hc) (by simp)).trans hc
set_option maxRecDepth 100000 in
theorem Keep.cellA {w W : World} {ob : Obj} (hk : Keep [] (w.alloc ob) W) {p : Addr} {v : Value} (hc : w.cell? p = some v) : W.cell? p = some v :=
  (((Keep.refl [] w).alloc ob).trans hk (by simp)).cellOf hc
end Go.Emb
namespace Go.Proofs.Ytngepgnmlpinaaa
open Go.RowKit Go.Emb Go.Lib Go.Emb.Ext

def needE (b r : Int) : Int := if b < 1 ∨ r < 1 then 0 else 1 + (b - 1) / r
set_option maxRecDepth 100000 in
theorem need_any (b r : Int) (w : World) (hb : b ≤ 9223372036854775807) (hr : r ≤ 9223372036854775807) : Calls Try.prog 55 #[.int .i64 b, .int .i64 r] w fun e w' => e = .returned (.int .i64 (needE b r)) ∧ w = w' := by
  unfold needE
  by_cases h1 : b < 1
  · go_enter Try.func55, Try.ntmps55
    go_wp2_with fail
    go_ret
    exact ⟨rfl, rfl⟩
  · by_cases h2 : r < 1
    · go_enter Try.func55, Try.ntmps55
      go_wp2_with fail
      go_ret
      exact ⟨rfl, rfl⟩
    · have h3 : (r == 0) = false := beq_eq_false_iff_ne.2 (by omega)
      have h4 : (0 : Int) ≤ (b - 1) / r := Int.ediv_nonneg (by omega) (by omega)
      have h5 : (b - 1) / r ≤ b - 1 := Int.ediv_le_self _ (by omega)
      go_enter Try.func55, Try.ntmps55
      go_wp2_with fail
      go_ret
      exact ⟨rfl, rfl⟩

end Go.Proofs.Ytngepgnmlpinaaa
