/- A part of the proof (Mx2, Mx3, BaseIn, Mx4, BaseSort, Mx5), joined by squeeze2.py. -/
import Derived.Test.YtimpadpeibgmoaaGreatYd11
import Derived.IntWalk
import Derived.Laws.StructEq
import Derived.Test.YtimpadpeibgmoaaGreatYd01
import Derived.RangeFuncNested
import Derived.RangeFuncBound
import Derived.RangeFuncCalls
import Derived.RangeFuncLeaves
import Derived.Shelf.Abstract
import Derived.Shelf.RegionOpen
import Derived.OwnWalkIn
import Derived.TacticsInMore
import Derived.LoopNIn
import Derived.LoopIn
import Derived.Shelf.SlSortCmp.WholeK
import Derived.Shelf.SlSortCmp.NoneTotal
import Derived.Test.YtimpadpeibgmoaaGreatYd02
set_option maxHeartbeats 8000000
set_option maxRecDepth 100000
namespace Go.Emb
theorem Keep.cellOf {F : List Nat} {w w' : World} (h : Keep F w w') {p : Addr} {v : Value} (hc : w.cell? p = some v) (hn : p.block ∉ F := by simp) : w'.cell? p = some v := by
 rw [h.cell (World.block_lt_of_cell? _ _ hc) hn]
 exact hc
end Go.Emb
namespace Go.Proofs.YtimpadpeibgmoaaGreat
open Go.RowKit Go.Emb Go.Lib Go.Emb.Ext
def needE (b r : Int) : Int := if b < 1 ∨ r < 1 then 0 else 1 + (b - 1) / r
theorem need_any (b r : Int) (w : World) (hb : b ≤ 9223372036854775807) (hr : r ≤ 9223372036854775807) : Calls Tryz.prog 61 #[.int .i64 b, .int .i64 r] w fun e w' => e = .returned (.int .i64 (needE b r)) ∧ w = w' := by
 unfold needE
 by_cases h1 : b < 1
 ·go_enter Tryz.func61, Tryz.ntmps61
  go_wp2_with fail
  go_ret
  exact ⟨rfl, rfl⟩
 ·by_cases h2 : r < 1
  ·go_enter Tryz.func61, Tryz.ntmps61
   go_wp2_with fail
   go_ret
   exact ⟨rfl, rfl⟩
  ·have h3 : (r == 0) = false := beq_eq_false_iff_ne.2 (by omega)
   have h4 : (0 : Int) ≤ (b - 1) / r := Int.ediv_nonneg (by omega) (by omega)
   have h5 : (b - 1) / r ≤ b - 1 := Int.ediv_le_self _ (by omega)
   go_enter Tryz.func61, Tryz.ntmps61
   go_wp2_with fail
   go_ret
   exact ⟨rfl, rfl⟩
end Go.Proofs.YtimpadpeibgmoaaGreat

namespace Go.Emb
open Go.RowKit
theorem ck3 {w w' : World} {p0 : Addr} {p1 : Addr} {p2 : Addr} {v0 : Value} {v1 : Value} {v2 : Value} (k : Keep [] w w') (h : w.cell? p0 = some v0 ∧ w.cell? p1 = some v1 ∧ w.cell? p2 = some v2) : w'.cell? p0 = some v0 ∧ w'.cell? p1 = some v1 ∧ w'.cell? p2 = some v2 := ⟨k.cellOf h.1, k.cellOf h.2.1, k.cellOf h.2.2⟩
theorem ck4 {w w' : World} {p0 : Addr} {p1 : Addr} {p2 : Addr} {p3 : Addr} {v0 : Value} {v1 : Value} {v2 : Value} {v3 : Value} (k : Keep [] w w') (h : w.cell? p0 = some v0 ∧ w.cell? p1 = some v1 ∧ w.cell? p2 = some v2 ∧ w.cell? p3 = some v3) : w'.cell? p0 = some v0 ∧ w'.cell? p1 = some v1 ∧ w'.cell? p2 = some v2 ∧ w'.cell? p3 = some v3 := ⟨k.cellOf h.1, k.cellOf h.2.1, k.cellOf h.2.2.1, k.cellOf h.2.2.2⟩
theorem ck5 {w w' : World} {p0 : Addr} {p1 : Addr} {p2 : Addr} {p3 : Addr} {p4 : Addr} {v0 : Value} {v1 : Value} {v2 : Value} {v3 : Value} {v4 : Value} (k : Keep [] w w') (h : w.cell? p0 = some v0 ∧ w.cell? p1 = some v1 ∧ w.cell? p2 = some v2 ∧ w.cell? p3 = some v3 ∧ w.cell? p4 = some v4) : w'.cell? p0 = some v0 ∧ w'.cell? p1 = some v1 ∧ w'.cell? p2 = some v2 ∧ w'.cell? p3 = some v3 ∧ w'.cell? p4 = some v4 := ⟨k.cellOf h.1, k.cellOf h.2.1, k.cellOf h.2.2.1, k.cellOf h.2.2.2.1, k.cellOf h.2.2.2.2⟩
theorem ck6 {w w' : World} {p0 : Addr} {p1 : Addr} {p2 : Addr} {p3 : Addr} {p4 : Addr} {p5 : Addr} {v0 : Value} {v1 : Value} {v2 : Value} {v3 : Value} {v4 : Value} {v5 : Value} (k : Keep [] w w') (h : w.cell? p0 = some v0 ∧ w.cell? p1 = some v1 ∧ w.cell? p2 = some v2 ∧ w.cell? p3 = some v3 ∧ w.cell? p4 = some v4 ∧ w.cell? p5 = some v5) : w'.cell? p0 = some v0 ∧ w'.cell? p1 = some v1 ∧ w'.cell? p2 = some v2 ∧ w'.cell? p3 = some v3 ∧ w'.cell? p4 = some v4 ∧ w'.cell? p5 = some v5 := ⟨k.cellOf h.1, k.cellOf h.2.1, k.cellOf h.2.2.1, k.cellOf h.2.2.2.1, k.cellOf h.2.2.2.2.1, k.cellOf h.2.2.2.2.2⟩
theorem ck7 {w w' : World} {p0 : Addr} {p1 : Addr} {p2 : Addr} {p3 : Addr} {p4 : Addr} {p5 : Addr} {p6 : Addr} {v0 : Value} {v1 : Value} {v2 : Value} {v3 : Value} {v4 : Value} {v5 : Value} {v6 : Value} (k : Keep [] w w') (h : w.cell? p0 = some v0 ∧ w.cell? p1 = some v1 ∧ w.cell? p2 = some v2 ∧ w.cell? p3 = some v3 ∧ w.cell? p4 = some v4 ∧ w.cell? p5 = some v5 ∧ w.cell? p6 = some v6) : w'.cell? p0 = some v0 ∧ w'.cell? p1 = some v1 ∧ w'.cell? p2 = some v2 ∧ w'.cell? p3 = some v3 ∧ w'.cell? p4 = some v4 ∧ w'.cell? p5 = some v5 ∧ w'.cell? p6 = some v6 := ⟨k.cellOf h.1, k.cellOf h.2.1, k.cellOf h.2.2.1, k.cellOf h.2.2.2.1, k.cellOf h.2.2.2.2.1, k.cellOf h.2.2.2.2.2.1, k.cellOf h.2.2.2.2.2.2⟩
theorem ck8 {w w' : World} {p0 : Addr} {p1 : Addr} {p2 : Addr} {p3 : Addr} {p4 : Addr} {p5 : Addr} {p6 : Addr} {p7 : Addr} {v0 : Value} {v1 : Value} {v2 : Value} {v3 : Value} {v4 : Value} {v5 : Value} {v6 : Value} {v7 : Value} (k : Keep [] w w') (h : w.cell? p0 = some v0 ∧ w.cell? p1 = some v1 ∧ w.cell? p2 = some v2 ∧ w.cell? p3 = some v3 ∧ w.cell? p4 = some v4 ∧ w.cell? p5 = some v5 ∧ w.cell? p6 = some v6 ∧ w.cell? p7 = some v7) : w'.cell? p0 = some v0 ∧ w'.cell? p1 = some v1 ∧ w'.cell? p2 = some v2 ∧ w'.cell? p3 = some v3 ∧ w'.cell? p4 = some v4 ∧ w'.cell? p5 = some v5 ∧ w'.cell? p6 = some v6 ∧ w'.cell? p7 = some v7 := ⟨k.cellOf h.1, k.cellOf h.2.1, k.cellOf h.2.2.1, k.cellOf h.2.2.2.1, k.cellOf h.2.2.2.2.1, k.cellOf h.2.2.2.2.2.1, k.cellOf h.2.2.2.2.2.2.1, k.cellOf h.2.2.2.2.2.2.2⟩
theorem ck9 {w w' : World} {p0 : Addr} {p1 : Addr} {p2 : Addr} {p3 : Addr} {p4 : Addr} {p5 : Addr} {p6 : Addr} {p7 : Addr} {p8 : Addr} {v0 : Value} {v1 : Value} {v2 : Value} {v3 : Value} {v4 : Value} {v5 : Value} {v6 : Value} {v7 : Value} {v8 : Value} (k : Keep [] w w') (h : w.cell? p0 = some v0 ∧ w.cell? p1 = some v1 ∧ w.cell? p2 = some v2 ∧ w.cell? p3 = some v3 ∧ w.cell? p4 = some v4 ∧ w.cell? p5 = some v5 ∧ w.cell? p6 = some v6 ∧ w.cell? p7 = some v7 ∧ w.cell? p8 = some v8) : w'.cell? p0 = some v0 ∧ w'.cell? p1 = some v1 ∧ w'.cell? p2 = some v2 ∧ w'.cell? p3 = some v3 ∧ w'.cell? p4 = some v4 ∧ w'.cell? p5 = some v5 ∧ w'.cell? p6 = some v6 ∧ w'.cell? p7 = some v7 ∧ w'.cell? p8 = some v8 := ⟨k.cellOf h.1, k.cellOf h.2.1, k.cellOf h.2.2.1, k.cellOf h.2.2.2.1, k.cellOf h.2.2.2.2.1, k.cellOf h.2.2.2.2.2.1, k.cellOf h.2.2.2.2.2.2.1, k.cellOf h.2.2.2.2.2.2.2.1, k.cellOf h.2.2.2.2.2.2.2.2⟩
theorem ck10 {w w' : World} {p0 : Addr} {p1 : Addr} {p2 : Addr} {p3 : Addr} {p4 : Addr} {p5 : Addr} {p6 : Addr} {p7 : Addr} {p8 : Addr} {p9 : Addr} {v0 : Value} {v1 : Value} {v2 : Value} {v3 : Value} {v4 : Value} {v5 : Value} {v6 : Value} {v7 : Value} {v8 : Value} {v9 : Value} (k : Keep [] w w') (h : w.cell? p0 = some v0 ∧ w.cell? p1 = some v1 ∧ w.cell? p2 = some v2 ∧ w.cell? p3 = some v3 ∧ w.cell? p4 = some v4 ∧ w.cell? p5 = some v5 ∧ w.cell? p6 = some v6 ∧ w.cell? p7 = some v7 ∧ w.cell? p8 = some v8 ∧ w.cell? p9 = some v9) : w'.cell? p0 = some v0 ∧ w'.cell? p1 = some v1 ∧ w'.cell? p2 = some v2 ∧ w'.cell? p3 = some v3 ∧ w'.cell? p4 = some v4 ∧ w'.cell? p5 = some v5 ∧ w'.cell? p6 = some v6 ∧ w'.cell? p7 = some v7 ∧ w'.cell? p8 = some v8 ∧ w'.cell? p9 = some v9 := ⟨k.cellOf h.1, k.cellOf h.2.1, k.cellOf h.2.2.1, k.cellOf h.2.2.2.1, k.cellOf h.2.2.2.2.1, k.cellOf h.2.2.2.2.2.1, k.cellOf h.2.2.2.2.2.2.1, k.cellOf h.2.2.2.2.2.2.2.1, k.cellOf h.2.2.2.2.2.2.2.2.1, k.cellOf h.2.2.2.2.2.2.2.2.2⟩
theorem ck11 {w w' : World} {p0 : Addr} {p1 : Addr} {p2 : Addr} {p3 : Addr} {p4 : Addr} {p5 : Addr} {p6 : Addr} {p7 : Addr} {p8 : Addr} {p9 : Addr} {p10 : Addr} {v0 : Value} {v1 : Value} {v2 : Value} {v3 : Value} {v4 : Value} {v5 : Value} {v6 : Value} {v7 : Value} {v8 : Value} {v9 : Value} {v10 : Value} (k : Keep [] w w') (h : w.cell? p0 = some v0 ∧ w.cell? p1 = some v1 ∧ w.cell? p2 = some v2 ∧ w.cell? p3 = some v3 ∧ w.cell? p4 = some v4 ∧ w.cell? p5 = some v5 ∧ w.cell? p6 = some v6 ∧ w.cell? p7 = some v7 ∧ w.cell? p8 = some v8 ∧ w.cell? p9 = some v9 ∧ w.cell? p10 = some v10) : w'.cell? p0 = some v0 ∧ w'.cell? p1 = some v1 ∧ w'.cell? p2 = some v2 ∧ w'.cell? p3 = some v3 ∧ w'.cell? p4 = some v4 ∧ w'.cell? p5 = some v5 ∧ w'.cell? p6 = some v6 ∧ w'.cell? p7 = some v7 ∧ w'.cell? p8 = some v8 ∧ w'.cell? p9 = some v9 ∧ w'.cell? p10 = some v10 := ⟨k.cellOf h.1, k.cellOf h.2.1, k.cellOf h.2.2.1, k.cellOf h.2.2.2.1, k.cellOf h.2.2.2.2.1, k.cellOf h.2.2.2.2.2.1, k.cellOf h.2.2.2.2.2.2.1, k.cellOf h.2.2.2.2.2.2.2.1, k.cellOf h.2.2.2.2.2.2.2.2.1, k.cellOf h.2.2.2.2.2.2.2.2.2.1, k.cellOf h.2.2.2.2.2.2.2.2.2.2⟩
theorem ck12 {w w' : World} {p0 : Addr} {p1 : Addr} {p2 : Addr} {p3 : Addr} {p4 : Addr} {p5 : Addr} {p6 : Addr} {p7 : Addr} {p8 : Addr} {p9 : Addr} {p10 : Addr} {p11 : Addr} {v0 : Value} {v1 : Value} {v2 : Value} {v3 : Value} {v4 : Value} {v5 : Value} {v6 : Value} {v7 : Value} {v8 : Value} {v9 : Value} {v10 : Value} {v11 : Value} (k : Keep [] w w') (h : w.cell? p0 = some v0 ∧ w.cell? p1 = some v1 ∧ w.cell? p2 = some v2 ∧ w.cell? p3 = some v3 ∧ w.cell? p4 = some v4 ∧ w.cell? p5 = some v5 ∧ w.cell? p6 = some v6 ∧ w.cell? p7 = some v7 ∧ w.cell? p8 = some v8 ∧ w.cell? p9 = some v9 ∧ w.cell? p10 = some v10 ∧ w.cell? p11 = some v11) : w'.cell? p0 = some v0 ∧ w'.cell? p1 = some v1 ∧ w'.cell? p2 = some v2 ∧ w'.cell? p3 = some v3 ∧ w'.cell? p4 = some v4 ∧ w'.cell? p5 = some v5 ∧ w'.cell? p6 = some v6 ∧ w'.cell? p7 = some v7 ∧ w'.cell? p8 = some v8 ∧ w'.cell? p9 = some v9 ∧ w'.cell? p10 = some v10 ∧ w'.cell? p11 = some v11 := ⟨k.cellOf h.1, k.cellOf h.2.1, k.cellOf h.2.2.1, k.cellOf h.2.2.2.1, k.cellOf h.2.2.2.2.1, k.cellOf h.2.2.2.2.2.1, k.cellOf h.2.2.2.2.2.2.1, k.cellOf h.2.2.2.2.2.2.2.1, k.cellOf h.2.2.2.2.2.2.2.2.1, k.cellOf h.2.2.2.2.2.2.2.2.2.1, k.cellOf h.2.2.2.2.2.2.2.2.2.2.1, k.cellOf h.2.2.2.2.2.2.2.2.2.2.2⟩
end Go.Emb

namespace Go.Proofs.YtimpadpeibgmoaaGreat
open Go.RowKit Go.Emb Go.Lib Go.Emb.Ext
theorem equalE (a b c d : Int) (W : World) : (Op.equalIn 10000 34 (.agg #[.int .i64 a, .int .i64 b]) (.agg #[.int .i64 c, .int .i64 d])).run Tryz.prog W = .ok (a == c && b == d) W := by
 rw [run_equalIn_agg W 9999 _ _ _ Tryz.underlying34 (by kernel_rfl)]
 unfold Program.fieldsOf
 rw [Tryz.underlying34]
 by_cases h1 : a = c
 ·by_cases h2 : b = d
  ·simp [Op.eqFields, go_sem, run_equalIn_int _ 9998 _ _ _ _ _ Tryz.underlying3, h1, h2]
  ·simp [Op.eqFields, go_sem, run_equalIn_int _ 9998 _ _ _ _ _ Tryz.underlying3, h1, h2]
 ·simp [Op.eqFields, go_sem, run_equalIn_int _ 9998 _ _ _ _ _ Tryz.underlying3, h1]
theorem guardE (op : BinOp) (x y : Operand) (a b c d : Int) (W : World) : (eqGuard op 34 x y (.agg #[.int .i64 a, .int .i64 b]) (.agg #[.int .i64 c, .int .i64 d])).run Tryz.prog W = .ok () W :=
 run_eqGuard_agg W op _ x y _ _ (by kernel_rfl)
theorem eqlE (a b c d : Int) (W : World) : (binOp .eql 34 (.agg #[.int .i64 a, .int .i64 b]) (.agg #[.int .i64 c, .int .i64 d])).run Tryz.prog W = .ok (.bool (a == c && b == d)) W := by
 rw [run_eql_struct, equalE]; rfl
end Go.Proofs.YtimpadpeibgmoaaGreat

namespace Go.Emb
open Go.RowKit
theorem wpListIn_append_row {F : Fence} {fn : Nat} {P : Program} (w : World) {ops : Array Oper} {rest : List Oper} {o : Oper} {a : Act} {Q : Exit → Act → World → Prop} (hgd : o.guard = none) (s x : Operand) (T tx : TypeId) (ho : o.op = .call { callee := .builtin .append, args := #[s, x], argTypes := #[T, tx] })
  (E : TypeId) (i : TypeInfo) (z : Value) (k bytes : Nat) (ht : P.underlying T = some (.slice E)) (hi : P.info? E = some i) (hz : i.zero = some z) (hik : i.size = k) (hib : i.bytes = bytes) (hzs : z.cells.size = k)
  (v : Value) (n : Nat) (xs : List Value) (r : Option Nat) (hs : a.eval s = v) (hown : Row w E k v n xs r) (xv : Value) (hx : a.eval x = xv) (m : Nat) (news : List Value) (hsrc : Src P k tx xv m news w) (hpos : 0 < m) (h63 : n + m ≤ maxLen) (hbytes : (n + m) * bytes ≤ 140737488355328)
  (h : ∀ g off cap w', Row w' E k (.slice (some ⟨g, off, none⟩) (n + m) cap) (n + m) (xs ++ news) (some g) → Keep r.toList w w' → (r = some g ∨ w.heap.size ≤ g) → wpListIn F fn P ops Q rest (a.put o.dst (.slice (some ⟨g, off, none⟩) (n + m) cap)) w') : wpListIn F fn P ops Q (o :: rest) a w := by
 refine wpListIn_plain hgd fun K' hK' => ?_
 obtain ⟨g, off, cap, w', hr, h2, h3, h4⟩ := run_append_row (P := P) (w := w) (ty := o.type) ht hi hz hik hib hzs hown hsrc hpos h63 hbytes
 unfold Oper.wpIn
 refine ⟨?_, ?_⟩
 ·simp [Oper.about, ho, resolve, Target.leads, Sem.run_pure]
 ·rw [Oper.semAt_plain F _ _ (by rw [ho]; intro c hc'; cases hc')]
  simp [execOp, ho, resolve, invoke, builtin, hs, hx, hr, Result.andThen]
  exact hK' _ _ (h g off cap w' h2 h3 h4)
theorem Row.cells {w : World} {E k : Nat} {v : Value} {n : Nat} {xs : List Value} {b : Nat} (h : Row w E k v n xs (some b)) : ∃ o : Obj, w.heap[b]? = some o ∧ o.isCells = true := by
 obtain ⟨_, h⟩ := h
 rcases h with ⟨h, _⟩ | ⟨b', off, cap, cs, e1, _, hb, _⟩
 ·cases h
 ·cases e1; exact ⟨_, hb, rfl⟩
theorem Row.grown {W W' : World} {row : Option Nat} {E k : Nat} {v : Value} {n : Nat} {xs : List Value} {o : Option Nat} (h : Row W E k v n xs o) (hg : W.grownBy W' row) (hr : ∀ r, row = some r → ∃ o : Obj, W.heap[r]? = some o ∧ o.isCells = false) : Row W' E k v n xs o := by
 have hc := fun b (e : o = some b) => Row.cells (e ▸ h)
 have hlt := h.lt
 obtain ⟨hl, h⟩ := h
 refine ⟨hl, ?_⟩
 rcases h with h | ⟨b, off, cap, cs, rfl, rfl, hb, r⟩
 ·exact .inl h
 ·refine .inr ⟨b, off, cap, cs, rfl, rfl, (hg.block b (hlt b rfl) (fun e => ?_)).trans hb, r⟩
  obtain ⟨o1, h1, h2⟩ := hr b e.symm
  obtain ⟨o2, h3, h4⟩ := hc b rfl
  rw [h1] at h3; cases h3
  rw [h2] at h4; cases h4
theorem Keep.others {F : List Nat} {w w' : World} (h : Keep F w w') (hF : ∀ b ∈ F, ∃ o : Obj, w.heap[b]? = some o ∧ o.isCells = true) : KeepsOthers w w' :=
 ⟨h.size, fun k o hk ho => (h.block k (Array.getElem?_eq_some_iff.1 hk).1 (fun hm => by
   obtain ⟨o2, h3, h4⟩ := hF k hm
   rw [hk] at h3; cases h3
   rw [ho] at h4; cases h4)).trans hk⟩
end Go.Emb

namespace Go.Proofs.YtimpadpeibgmoaaGreat
open Go.RowKit Go.Emb Go.Lib Go.Emb.Ext Go.Shelf
attribute [local go_sem] Oper.semAt_some
theorem values1_in (l Bs n₀ : Nat) (v : Value) (xs : List E) (o : Option Nat) (hsz : xs.length ≤ 1000000000) (ho : ∀ b, o = some b → b < n₀) (n : Nat) (hn : 1 ≤ n) (J Jx : List E → World → Prop)
  (hY : ∀ pre x W, J pre W → pre.length < xs.length → YieldAt Fence.wide (n - 1) Tryz.prog l #[aggE x] W fun e W' =>
    (e = .returned (.bool true) ∧ J (pre ++ [x]) W' ∧ Below n₀ W W') ∨ (e = .returned (.bool false) ∧ Jx (pre ++ [x]) W'))
  (W : World) (hn0 : n₀ ≤ W.heap.size) (hJ : AbidesFrom W.heap.size J) (hBs : W.cell? ⟨Bs, 0, none⟩ = some v) (hr : RdE W v xs o) (h0 : J [] W) :
  CallsIn Fence.wide n Tryz.prog 114 #[.func (.yield l) #[] #[], .pointer (some ⟨Bs, 0, none⟩)] W fun e W' => (∃ v, e = .returned v) ∧
   ((∃ ys, ys = xs ∧ J ys W') ∨ (∃ pre, True ∧ Jx pre W')) := by
 obtain ⟨a, c, rfl⟩ : ∃ a c, v = .slice a xs.length c := by obtain ⟨_, a, c, h, _⟩ := hr; exact ⟨a, c, h⟩
 have HR := hyd hr
 have HO := hyd ho
 have HJ := hyd hJ
 have HY := hyd hY
 clear hr ho hJ hY
 refine callsIn_of_wp Tryz.func114 rfl trivial ?_ rfl
 simp only [Tryz.ntmps114, List.size_toArray, List.length_cons, List.length_nil, Nat.reduceAdd, Nat.reduceSub, Array.replicate_succ, Array.replicate_zero, List.push_toArray, List.append_toArray, List.nil_append, List.cons_append]
 gi_wp2
 gi_loopw [4, 7] (fun _ i wr => ∃ k : Nat, k ≤ xs.length ∧ i = .int .i64 k ∧ J (xs.take k) wr ∧ Below n₀ W wr ∧ W.heap.size ≤ wr.heap.size) (fun _ i _ => xs.length - (intOf i).toNat)
 case atStart => exact ⟨0, Nat.zero_le _, rfl, h0, Below.refl _ _, Nat.le_refl _⟩
 case round =>
  obtain ⟨k, hk, rfl, hJs, hnx, hws⟩ := hrel
  have HJS := hyd hJs
  have HNX := hyd hnx
  clear hJs hnx h0
  by_cases hlt : k < xs.length
  ·obtain ⟨b, off, rfl, rfl, g0, g1⟩ := HR.o.at hlt
   have hb := HO.o b rfl
   have c0 : wr.cell? ⟨b, off + k * 2, none⟩ = some (.int .i64 xs[k].1) := (HNX.o.cell (p := ⟨b, off + k * 2, none⟩) hb).trans g0
   have c1 : wr.cell? ⟨b, off + k * 2 + 1, none⟩ = some (.int .i64 xs[k].2) := (HNX.o.cell (p := ⟨b, off + k * 2 + 1, none⟩) hb).trans g1
   clear g0 g1
   have hts : xs.take (k + 1) = xs.take k ++ [xs[k]] := List.take_succ_eq_append_getElem hlt
   have HTS := hyd hts
   clear hts
   have hyy := fun ob => HY.o (xs.take k) xs[k] (wr.alloc ob) (HJ.o _ _ _ none HJS.o (World.grownBy_alloc wr ob none) (fun r e => by cases e)) (by simp; omega)
   generalize xs[k] = x at *
   obtain ⟨x1, x2⟩ := x
   simp only [aggE] at hyy c0 c1
   obtain ⟨fn, tmps, assign, body, hy, hR⟩ := hyy (.cells #[.int .i64 x1, .int .i64 x2] 34)
   have HRR := hyd hR
   clear hR hyy
   have i0 : (0 : Int) ≤ (k : Int) := by omega
   have i1 : (k : Int) < (xs.length : Int) := by omega
   gi_wp2
   refine HRR.o.mono ?_
   rintro e W3 (⟨rfl, hJ3, hk3⟩ | ⟨rfl, hJx3⟩)
   ·have HJ3 := hyd hJ3
    have HK3 := hyd hk3
    clear hJ3 hk3
    gi_wp2
    go_roundw
    case rel =>
     have := HK3.o.size
     exact ⟨k + 1, by omega, by simp, by rw [HTS.o]; exact HJ3.o, (HNX.o.alloc (by omega) _).trans HK3.o, by simp at this; omega⟩
    case measure => simp [intOf]; omega
   ·gi_wp2
    refine bodyPost_ret (results_none rfl _ _ _) rfl ?_
    exact ⟨⟨_, rfl⟩, .inr ⟨_, trivial, hJx3⟩⟩
  ·gi_wp2
   go_end0
   exact ⟨⟨_, rfl⟩, .inl ⟨_, rfl, by have := HJS.o; rwa [List.take_of_length_le (by omega)] at this⟩⟩
theorem values_stops (n : Nat) (hn : 1 ≤ n) (Bs n₀ : Nat) (v : Value) (xs : List E) (o : Option Nat) (hsz : xs.length ≤ 1000000000) (ho : ∀ b, o = some b → b < n₀) (w : World) (hBs : Bs < w.heap.size) (hn₀ : n₀ ≤ w.heap.size)
  (hc : w.cell? ⟨Bs, 0, none⟩ = some v) (hr : RdE w v xs o) :
  SeqStopsK Fence.wide n Tryz.prog 114 #[.pointer (some ⟨Bs, 0, none⟩)] (fun x : E => #[aggE x]) (Below n₀) (fun ys => ys = xs) (fun _ => True) xs.length w := fun l J Jx W hW hJ _ hY h0 => by
 have hc' := (hW.cell (p := ⟨Bs, 0, none⟩) hBs).trans hc
 have hk : Keep [] w W := Keep.of_below hW
 exact values1_in l Bs n₀ v xs o hsz ho n hn J Jx hY W (Nat.le_trans hn₀ hW.size) hJ hc' (hr.keep hk (by simp)) h0
theorem ext_info : (Tryz.prog.info? 34).map (fun i => (i.zero, i.size, i.bytes)) = some (some (.agg #[.int .i64 0, .int .i64 0]), 2, 16) := by kernel_rfl
theorem two_src {P : Program} {tx e' : TypeId} (hk : P.underlying tx = some (.slice e')) (w : World) (x y : Value) (hx : x.oneCell' = true) (hy : y.oneCell' = true) (t : TypeId) : Src P 2 tx (.slice (some ⟨w.heap.size, 0, none⟩) 1 1) 1 [x, y] (w.alloc (.cells #[x, y] t)) :=
 Src.ofSlice _ hk _ 1 1 [x, y] rfl (fun j u hu => by
   match j with
   | 0 => simp at hu; subst hu; simp [Addr.add]
   | 1 => simp at hu; subst hu; simp [Addr.add]
   | j + 2 => simp at hu) (by simp [hx, hy])
def RowE (w : World) (v : Value) (l : List E) (o : Option Nat) : Prop := Row w 34 2 v l.length (l.flatMap encE) o
theorem RowE.keep {F : List Nat} {w w' : World} {v : Value} {l : List E} {o : Option Nat} (h : RowE w v l o) (hk : Keep F w w') (hn : ∀ b, o = some b → b ∉ F) : RowE w' v l o := Row.keep h hk hn
def SeqI (w : World) (pre : List E) (W : World) : Prop :=
 ∃ v o, Boxed W w.heap.size 46 v ∧ RowE W v pre o ∧ (∀ b, o = some b → w.heap.size < b) ∧ Below w.heap.size w W
theorem seqI_own (w : World) (B : Nat) (hB : w.heap.size ≤ B) : OwnFrom B (SeqI w) := by
 intro s W W' row hs hg hr
 obtain ⟨v, o, h1, h2, h3, h4⟩ := hs
 refine ⟨v, o, boxed_own w.heap.size _ (fun (_ : Unit) => v) () W W' row h1 hg (fun r e => (hr r e).2), Row.grown h2 hg (fun r e => (hr r e).2), h3, ?_⟩
 exact ownFrom_below (β := Unit) (Nat.le_refl _) hB () W W' row h4 hg hr
def SeqAx (w : World) (v0 : Value) (B : Nat) (x : E) (a' : Act) (W : World) : Prop :=
 ∃ Bx, w.heap.size < Bx ∧ W.heap[Bx]? = some (.cells #[.int .i64 x.1, .int .i64 x.2] 34 (0, 0)) ∧ a' = { tmps := #[.slice none 0 0, .func (.func 114) #[] #[.pointer (some ⟨B, 0, none⟩)], .pointer (some ⟨w.heap.size, 0, none⟩), undef, .slice none 0 0, .pointer (some ⟨Bx, 0, none⟩), .func (.func 114) #[] #[.pointer (some ⟨B, 0, none⟩)], aggE x, undef, undef, undef, undef, undef], defers := [] }
def CollP (w : World) (xs : List E) (e : Ending) (w' : World) : Prop := ∃ v o, e = .returned v ∧ RowE w' v xs o ∧ (∀ b, o = some b → w.heap.size ≤ b) ∧ Keep [] w w'
theorem appendSeq_any {w : World} {B : Nat} {v : Value} {xs : List E} {o : Option Nat} (hB : w.cell? ⟨B, 0, none⟩ = some v) (hr : RdE w v xs o) (hsz : xs.length ≤ 1000000000) (ho : ∀ b, o = some b → b < w.heap.size) :
  Calls Tryz.prog 132 #[.slice none 0 0, .func (.func 114) #[] #[.pointer (some ⟨B, 0, none⟩)]] w (CollP w xs) := by
 refine (callsIn_wide (n := 6)).1 ?_
 have hro : Fence.wide.round = none := rfl
 have hBl : B < w.heap.size := World.block_lt_of_cell? _ _ hB
 obtain ⟨i0, hi, hz0, hz1, hz2⟩ := info_parts ext_info
 have HI := hyd hi
 have HR := hyd hr
 have HO := hyd ho
 have HB := hyd hB
 clear hi hr ho hB
 refine callsIn_of_wp_marks Tryz.func132 rfl trivial ?_ hro
 simp only [Tryz.ntmps132, List.size_toArray, List.length_cons, List.length_nil, Nat.reduceAdd, Nat.reduceSub, Array.replicate_succ, Array.replicate_zero, List.push_toArray, List.append_toArray, List.nil_append, List.cons_append]
 gi_wp2
 have k0 : Keep [] w (w.alloc (.cells #[.slice none 0 0] 46)) := (Keep.refl _ _).alloc _
 refine wpIn_rangeFunc_ownH hro (by omega) (gf := 114) (lb := #[.pointer (some ⟨B, 0, none⟩)]) rfl trivial (enters_of Tryz.func114 (by kernel_rfl) rfl)
  (values_stops (6 - 1) (by omega) B w.heap.size v xs o hsz HO.o _ (by simp; omega) (by simp) (k0.cellOf HB.o) (HR.o.keep k0 (by simp))) belowK_t (belowK_b (by simp)) (Below.refl _ _) (fun _ => rfl)
  (SeqI w) (fun _ _ _ => False) (seqI_own w _ (by simp)) (fun _ _ _ _ _ hs _ _ => hs)
  ⟨_, none, Boxed.new w _ _, Row.nil _ _ _, by simp, (Below.refl _ w).alloc (Nat.le_refl _) _⟩
  (SeqAx w v B)
  (fun x a' _ X Y row hs hg hr => by
    obtain ⟨Bx, h1, h2, h3⟩ := hs
    refine ⟨Bx, h1, (hg.block Bx (Array.getElem?_eq_some_iff.1 h2).1 (fun e => ?_)).trans h2, h3⟩
    obtain ⟨_, o1, h4, h5⟩ := hr Bx e.symm
    rw [h2] at h4; cases h4; cases h5)
  ?assign ?body ?done ?stop
 case assign =>
  rintro l pre x W K ⟨v1, o1, b1, r1, f1, hB1⟩ hK
  obtain ⟨x1, x2⟩ := x
  simp only [aggE]
  gi_wp2
  have hs1 := b1.lt
  refine hK _ _ ((KeepsOthers.alloc _ _).from _) ((Below.refl _ W).alloc hB1.size _) ⟨v1, o1, b1.alloc _, r1.keep ((Keep.refl [] _).alloc _) (by simp), f1, hB1.alloc hB1.size _⟩ ⟨W.heap.size, hs1, ?_, rfl⟩
  exact heap_alloc_new W _
 case body =>
  rintro l pre x a' W hl hloop ⟨v1, o1, b1, r1, f1, hB1⟩ ⟨Bx, hBx, bX, rfl⟩ hlt
  obtain ⟨x1, x2⟩ := x
  simp only [aggE] at *
  have cB := b1.cell
  have fB := b1.frozen
  obtain ⟨cx0, cx1, -⟩ : W.cell? ⟨Bx, 0, none⟩ = some (.int .i64 x1) ∧ W.cell? ⟨Bx, 1, none⟩ = some (.int .i64 x2) ∧ True := by
   refine ⟨?_, ?_, trivial⟩ <;> simp [World.cell?, bX]
  have HB1 := hyd b1
  have HR1 := hyd r1
  have HF1 := hyd f1
  have HBB := hyd hB1
  have hwB := b1.lt
  have hlen : pre.length < 1000000000 := by omega
  clear b1 r1 f1 hB1 bX hloop
  gi_wp2_with (gi_at_builtin; refine wpListIn_append_row _ rfl _ _ 46 46 rfl 34 i0 _ 2 16 Tryz.underlying46 HI.o hz0 hz1 hz2 rfl v1 pre.length (pre.flatMap encE) o1 rfl (Row.keep HR1.o ((Keep.refl [] _).alloc _) (by simp)) _ rfl 1 _ (two_src Tryz.underlying46 _ _ _ rfl rfl _) (by omega) (by unfold maxLen; omega) (by omega) ?_; intro g off2 cap w2 hrow2 hk2 hg2; have hbox2 : Boxed w2 w.heap.size 46 v1 := ((hk2.block _ (by simp; omega) (by cases o1 with | none => simp | some b => have := HF1.o b rfl; simp; omega)).trans (HB1.o.alloc _)); have hc2 := hbox2.cell; have hf2 := hbox2.frozen)
  have hk3 : Keep o1.toList W w2 := ((Keep.refl _ _).alloc _).trans hk2 (fun x hx => .inl hx)
  have hcl : ∀ b ∈ o1.toList, ∃ o : Obj, W.heap[b]? = some o ∧ o.isCells = true := by
   intro b hb
   cases o1 with
   | none => simp at hb
   | some b1 => simp at hb; subst hb; exact Row.cells HR1.o
  have hle : ∀ b ∈ o1.toList, w.heap.size ≤ b := by
   intro b hb
   cases o1 with
   | none => simp at hb
   | some b1 => simp at hb; subst hb; have := HF1.o b rfl; omega
  have hgl : w.heap.size < g := by
   rcases hg2 with h | h
   ·exact HF1.o g h
   ·simp at h; omega
  have hbl : Below w.heap.size W (w2.setCell ⟨w.heap.size, 0, none⟩ (.slice (some ⟨g, off2, none⟩) (pre.length + 1) cap)) := (hk3.below hle HBB.o.size).setCell (p := ⟨w.heap.size, 0, none⟩) (Nat.le_refl _) _
  refine ⟨((hk3.others hcl).trans (KeepsOthers.setCell _ _ _)).from _, hbl, _, some g, hbox2.set _, ?_, (by rintro b ⟨⟩; exact hgl), HBB.o.trans hbl⟩
  have hr3 := hrow2.keep (Keep.set1 w2 ⟨w.heap.size, 0, none⟩ (.slice (some ⟨g, off2, none⟩) (pre.length + 1) cap)) (by rintro b ⟨⟩; simp; omega)
  unfold RowE
  simpa [encE] using hr3
 case done =>
  rintro D zs W hD rfl ⟨v1, o1, b1, r1, f1, hB1⟩ hK
  have cB := b1.cell
  have HR1 := hyd r1
  have HF1 := hyd f1
  have HBB := hyd hB1
  clear r1 f1 hB1
  gi_wp2
  refine ⟨by simp, .inl ⟨_, _, rfl, run_takeDeferred hK, ?_⟩⟩
  refine ⟨_, results_tmp rfl _ _ _, v1, o1, rfl, Row.grown HR1.o (grownBy_putObj' W D (.deferred none)) (fun r e => by cases e; exact ⟨_, hK, rfl⟩), fun b hb => by have := HF1.o b hb; omega, ?_⟩
  exact Keep.of_below (HBB.o.trans (belowK_b (w := w) (Nat.le_refl _) W D _ _ (by simp at hD; omega) hK rfl rfl))
 case stop =>
  rintro D c pre W _ _ h _
  exact h.elim
theorem collect_any {w : World} {B : Nat} {v : Value} {xs : List E} {o : Option Nat} (hB : w.cell? ⟨B, 0, none⟩ = some v) (hr : RdE w v xs o) (hsz : xs.length ≤ 1000000000) (ho : ∀ b, o = some b → b < w.heap.size) :
  Calls Tryz.prog 112 #[.func (.func 114) #[] #[.pointer (some ⟨B, 0, none⟩)]] w (CollP w xs) := by
 have h := appendSeq_any hB hr hsz ho
 clear hB hr ho
 go_enter Tryz.func112, Tryz.ntmps112
 go_wp2_with fail
 refine h.mono ?_
 rintro e w' ⟨v', o', rfl, h1, h2, h3⟩
 have H1 := hyd h1
 have H2 := hyd h2
 have H3 := hyd h3
 clear h h1 h2 h3
 go_wp2_with fail
 go_ret
 exact ⟨v', o', rfl, H1.o, H2.o, H3.o⟩
theorem values_any (v : Value) (w : World) (hv : ∃ a n c, v = .slice a n c) : Calls Tryz.prog 77 #[v] w fun e w' => e = .returned (.func (.func 114) #[] #[.pointer (some ⟨w.heap.size, 0, none⟩)]) ∧ w.alloc (.cells #[v] 46) = w' := by
 obtain ⟨a, n, c, rfl⟩ := hv
 go_enter Tryz.func77, Tryz.ntmps77
 go_wp2_with fail
 go_ret
 exact ⟨rfl, rfl⟩
end Go.Proofs.YtimpadpeibgmoaaGreat

namespace Go.Emb
open Go.RowKit Go.Shelf Go.Lib Go.Sort Go.Proofs
theorem flat_get {α : Type} {enc : α → List Value} {k : Nat} (hk : ∀ x, (enc x).length = k) (hp : 0 < k) : ∀ (l : List α) (t : Nat), (l.flatMap enc)[t]? = (l[t / k]?).bind fun x => (enc x)[t % k]?
 | [], t => by simp
 | x :: l, t => by
  rw [List.flatMap_cons]
  by_cases h : t < k
  ·rw [List.getElem?_append_left (by rw [hk]; exact h), Nat.div_eq_of_lt h, Nat.mod_eq_of_lt h]
   rfl
  ·rw [List.getElem?_append_right (by rw [hk]; omega), hk, flat_get hk hp l (t - k)]
   have h1 : t / k = (t - k) / k + 1 := by rw [← Nat.add_div_right _ hp]; congr 1; omega
   have h2 : t % k = (t - k) % k := by rw [← Nat.add_mod_right (t - k) k]; congr 1; omega
   rw [h1, h2, List.getElem?_cons_succ]
theorem flat_len {α : Type} {enc : α → List Value} {k : Nat} (hk : ∀ x, (enc x).length = k) : ∀ l : List α, (l.flatMap enc).length = l.length * k
 | [] => by simp
 | x :: l => by rw [List.flatMap_cons, List.length_append, hk, flat_len hk l, List.length_cons, Nat.succ_mul]; omega
theorem flat_flatK {α : Type} [Inhabited α] {enc : α → List Value} {k : Nat} (hk : ∀ x, (enc x).length = k) (hp : 0 < k) (d : Array α) (t : Nat) (ht : t < d.size * k) : some ((flatK enc k d)[t]!) = (d.toList.flatMap enc)[t]? := by
 rw [get_flatK enc k d t ht, flat_get hk hp]
 have h1 : t / k < d.size := (Nat.div_lt_iff_lt_mul hp).2 ht
 have h2 : t % k < k := Nat.mod_lt _ hp
 rw [List.getElem?_eq_getElem (by simpa using h1), Option.bind_some, List.getElem?_eq_getElem (by rw [hk]; exact h2)]
 simp only [Array.getElem_toList]
 rw [getElem!_pos d (t / k) h1, getElem!_pos _ (t % k) (by rw [hk]; exact h2)]
theorem Row.holdsK {α : Type} [Inhabited α] {enc : α → List Value} {k : Nat} (hk : ∀ x, (enc x).length = k) (hp : 0 < k) {w : World} {E b off cap : Nat} {d : Array α} (h : Row w E k (.slice (some ⟨b, off, none⟩) d.size cap) d.size (d.toList.flatMap enc) (some b)) :
  HoldsK enc k w b off d := by
 obtain ⟨_, h⟩ := h
 rcases h with ⟨h, _⟩ | ⟨b', off', cap', cs, e1, e2, hb, h1, h2, h3, h5⟩
 ·cases h
 cases e1; cases e2
 intro j hj
 rw [size_flatK] at hj
 have hc := h5 j hj
 rw [← flat_flatK hk hp d j hj] at hc
 exact ⟨by simp [World.cell?, hb, hc], by simp [World.frozen?, hb]⟩
theorem Row.sorted {α : Type} [Inhabited α] {enc : α → List Value} {k : Nat} (hk : ∀ x, (enc x).length = k) (hp : 0 < k) {w : World} {E b off cap : Nat} {d d' : Array α} (hs : d'.size = d.size) (h : Row w E k (.slice (some ⟨b, off, none⟩) d.size cap) d.size (d.toList.flatMap enc) (some b)) (n : Nat) (os : Array Obj) :
  Row (sortWorldK enc k w b off n d' os) E k (.slice (some ⟨b, off, none⟩) d.size cap) d.size (d'.toList.flatMap enc) (some b) ∧ Keep [b] w (sortWorldK enc k w b off n d' os) := by
 have hlt := h.lt b rfl
 obtain ⟨hl, h⟩ := h
 rcases h with ⟨h, _⟩ | ⟨b', off', cap', cs, e1, e2, hb, h1, h2, h3, h5⟩
 ·cases h
 cases e1; cases e2
 have hk2 : d.size * k ≤ cap * k := Nat.mul_le_mul_right _ h1
 have hheap : (sortWorldK enc k w b off n d' os).heap[b]? = some (.cells (putCells id off (flatK enc k d') cs) E (0, 0)) := by
  unfold sortWorldK
  rw [Go.Sort.heap_grow_old _ _ (by simp [putRowK]; exact hlt)]
  simp [putRowK, putRow, mapBlock, Array.getElem?_modify, hb, onCells]
 refine ⟨⟨by rw [flat_len hk]; simp [hs], .inr ⟨b, off, cap, _, rfl, rfl, hheap, h1, h2, by simp [putCells]; exact h3, fun i hi => ?_⟩⟩, ?_⟩
 ·rw [← hs] at hi
  rw [← flat_flatK hk hp d' i hi]
  have hi2 : off + i < cs.size := by rw [hs] at hi; omega
  simp only [putCells, Array.getElem?_mapIdx, Array.getElem?_eq_getElem hi2, Option.map_some, size_flatK]
  rw [if_pos ⟨by omega, by omega⟩]
  simp
 ·refine ⟨rfl, rfl, rfl, by simp [sortWorldK, putRowK], fun i hi hn => ?_⟩
  unfold sortWorldK
  rw [Go.Sort.heap_grow_old _ _ (by simp [putRowK]; exact hi)]
  simp only [List.mem_singleton] at hn
  simp [putRowK, putRow, mapBlock, Array.getElem?_modify, Ne.symm hn]
end Go.Emb

namespace Go.Proofs.YtimpadpeibgmoaaGreat
open Go.RowKit Go.Emb Go.Lib Go.Emb.Ext Go.Shelf Go.Sort
theorem isNaN_any (x : Int) (w : World) : Calls Tryz.prog 115 #[.int .i64 x] w fun e w' => e = .returned (.bool false) ∧ w = w' := by
 go_enter Tryz.func115, Tryz.ntmps115
 go_wp2_with fail
 go_ret
 exact ⟨by simp, rfl⟩
theorem compare_any (x y : Int) (w : World) : Calls Tryz.prog 79 #[.int .i64 x, .int .i64 y] w fun e w' => e = .returned (.int .i64 (Lib.compareInt x y)) ∧ w = w' := by
 unfold Lib.compareInt
 by_cases h1 : x < y
 ·rw [if_pos h1]
  go_enter Tryz.func79, Tryz.ntmps79
  go_wp2_with (go_at_call 115; refine (isNaN_any _ _).mono ?_; rintro e w' ⟨rfl, rfl⟩)
  go_ret
  exact ⟨rfl, rfl⟩
 ·by_cases h2 : y < x
  ·rw [if_neg h1, if_pos h2]
   go_enter Tryz.func79, Tryz.ntmps79
   go_wp2_with (go_at_call 115; refine (isNaN_any _ _).mono ?_; rintro e w' ⟨rfl, rfl⟩)
   go_ret
   exact ⟨rfl, rfl⟩
  ·rw [if_neg h1, if_neg h2]
   go_enter Tryz.func79, Tryz.ntmps79
   go_wp2_with (go_at_call 115; refine (isNaN_any _ _).mono ?_; rintro e w' ⟨rfl, rfl⟩)
   go_ret
   exact ⟨rfl, rfl⟩
def cmpF (x y : E) : Int := Lib.compareInt x.1 y.1
def cmpL (x y : E) : Int := Lib.compareInt x.2 y.2
theorem ltF (x y : E) : ltOf cmpF x y = decide (x.1 < y.1) := by
 unfold ltOf cmpF Lib.compareInt
 rw [Bool.eq_iff_iff]
 simp only [decide_eq_true_eq]
 split
 ·simp; omega
 ·split <;> simp <;> omega
theorem swoF : SWO (ltOf cmpF) where
 irrefl x := by rw [ltF]; simp
 trans x y z h1 h2 := by rw [ltF] at *; simp at *; omega
 ntrans x y z h1 h2 := by rw [ltF] at *; simp at *; omega
theorem closureF (x y : E) (W : World) : Calls Tryz.prog 78 #[.agg #[.int .i64 x.1, .int .i64 x.2], .agg #[.int .i64 y.1, .int .i64 y.2]] W fun e w' => e = .returned (.int .i64 (cmpF x y)) ∧ ∃ q os', w' = grow (W.drewN q) os' := by
 obtain ⟨x1, x2⟩ := x
 obtain ⟨y1, y2⟩ := y
 unfold cmpF
 go_enter Tryz.func78, Tryz.ntmps78
 go_wp2_with (go_at_call 79; refine (compare_any _ _ _).mono ?_; rintro e w' ⟨rfl, rfl⟩)
 go_ret
 exact ⟨rfl, 0, _, by rw [alloc_eq_grow, alloc_eq_grow, grow_grow]; rfl⟩
theorem perm_of_permIn {d d' : Array E} (h : PermIn 0 d.size d d') : d'.toList.Perm d.toList ∧ d'.size = d.size := by
 obtain ⟨h1, _, h3⟩ := h
 refine ⟨?_, h1⟩
 have e1 : d.extract 0 d.size = d := by simp
 have e2 : d'.extract 0 d.size = d' := by rw [← h1]; simp
 rwa [e1, e2] at h3
theorem sortF_any {w : World} {v : Value} {d : List E} {o : Option Nat} (h : RowE w v d o) (hsz : d.length ≤ 1000000000) :
  Calls Tryz.prog 113 #[v, .func (.func 78) #[] #[]] w fun e w' => e = .returned (.tuple #[]) ∧ ∃ s, s.Perm d ∧ s.Pairwise (fun x y => x.1 ≤ y.1) ∧ RowE w' v s o ∧ Keep o.toList w w' := by
 have eg : ∀ args w, (callFunc 78 args).run Tryz.prog w = .ok (.enter 78 args) w := enters_of Tryz.func78 (by kernel_rfl) rfl
 have hk : ∀ x, (encE x).length = 2 := fun _ => rfl
 unfold RowE at *
 rcases d with _ | ⟨t, d⟩
 ·obtain ⟨a, c, rfl⟩ : ∃ a c, v = .slice a 0 c := by
   rcases h.2 with ⟨_, hv, _⟩ | ⟨b, off, cap, cs, _, hv, _⟩
   ·exact ⟨_, _, hv⟩
   ·exact ⟨_, _, hv⟩
  have hcon := AnyF.slices_SortFunc_none Tryz.sortT a c (.func (.func 78) #[] #[]) w
  change Calls Tryz.prog 113 _ _ _ at hcon
  refine hcon.mono ?_
  rintro e w' ⟨rfl, rfl⟩
  exact ⟨rfl, [], List.Perm.refl _, by simp, h, Keep.refl _ _⟩
 ·generalize hd : t :: d = D at *
  have hpos : D.length ≠ 0 := by rw [← hd]; simp
  obtain ⟨b, off, cap, rfl, rfl⟩ : ∃ b off cap, o = some b ∧ v = .slice (some ⟨b, off, none⟩) D.length cap := by
   rcases h.2 with ⟨_, _, h0⟩ | ⟨b, off, cap, cs, ho, hv, _⟩
   ·exact absurd h0 hpos
   ·exact ⟨b, off, cap, ho, hv⟩
  have h' : Row w 34 2 (.slice (some ⟨b, off, none⟩) D.toArray.size cap) D.toArray.size (D.toArray.toList.flatMap encE) (some b) := by simpa using h
  have hcon := AnyQ.slices_SortFunc Tryz.sortT 2 Tryz.isAgg34 Tryz.sizeOf34 encE hk (fun x v hv => by simp [encE] at hv; rcases hv with rfl | rfl <;> rfl) cmpF swoF 78 #[] b off cap D.toArray w eg (fun _ _ _ _ x y => closureF x y _) (h'.holdsK hk (by omega)) (h.lt b rfl) (by simp; omega)
  change Calls Tryz.prog 113 _ _ _ at hcon
  have hsz' : D.toArray.size = D.length := by simp
  rw [hsz'] at hcon
  refine hcon.mono ?_
  rintro e w' ⟨rfl, d', n, os, hp, hs, rfl⟩
  obtain ⟨hp1, hp2⟩ := perm_of_permIn (d := D.toArray) (by rw [hsz']; exact hp)
  have := h'.sorted hk (by omega) hp2 n os
  refine ⟨rfl, d'.toList, by simpa using hp1, ?_, ?_, by simpa using this.2⟩
  ·rw [List.pairwise_iff_getElem]
   intro i j hi hj hij
   have := hs i j (by omega) hij (by have := hp2; simp at hj this; omega)
   rw [ltF, getElem!_pos d' i (by simpa using hi), getElem!_pos d' j (by simpa using hj)] at this
   simp at this ⊢
   exact this
  ·have h1 := this.1
   have hl : d'.toList.length = D.length := by simpa using hp2
   rw [hl]
   simpa using h1
def SortedP (w : World) (l : List E) (e : Ending) (w' : World) : Prop :=
 ∃ v o s, e = .returned v ∧ s.Perm l ∧ s.Pairwise (fun x y => x.1 ≤ y.1) ∧ RowE w' v s o ∧ (∀ b, o = some b → w.heap.size ≤ b) ∧ Keep [] w w'
theorem sortedFunc_any {w : World} {B : Nat} {v : Value} {xs : List E} {o : Option Nat} (hB : w.cell? ⟨B, 0, none⟩ = some v) (hr : RdE w v xs o) (hsz : xs.length ≤ 1000000000) (ho : ∀ b, o = some b → b < w.heap.size) :
  Calls Tryz.prog 76 #[.func (.func 114) #[] #[.pointer (some ⟨B, 0, none⟩)], .func (.func 78) #[] #[]] w (SortedP w xs) := by
 have h := collect_any hB hr hsz ho
 clear hB hr ho
 go_enter Tryz.func76, Tryz.ntmps76
 go_wp2_with fail
 refine h.mono ?_
 rintro e w' ⟨v', o', rfl, h1, h2, h3⟩
 have hc := sortF_any h1 hsz
 have H2 := hyd h2
 have H3 := hyd h3
 clear h h1 h2 h3
 go_wp2_with fail
 refine hc.mono ?_
 rintro e w2 ⟨rfl, s, p1, p2, p3, p4⟩
 have P1 := hyd p1
 have P2 := hyd p2
 have P3 := hyd p3
 have P4 := hyd p4
 clear p1 p2 p3 p4 hc
 go_wp2_with fail
 go_ret
 refine ⟨v', o', s, rfl, P1.o, P2.o, P3.o, H2.o, H3.o.trans P4.o ?_⟩
 intro x hx
 right
 cases o' with
 | none => simp at hx
 | some b => simp at hx; subst hx; exact H2.o x rfl
end Go.Proofs.YtimpadpeibgmoaaGreat
