/-
  The base, more: an append as an operation of a drawn region; small facts about blocks.
-/
import Derived.Test.YtdeghoigpcbmcaaBaseApp
import Derived.Test.YtdeghoigpcbmcaaBaseReg
namespace Go.Emb
open Go.RowKit
theorem step_append_row {P : Program} (w : World) {ops : Array Oper} {o : Oper} {a : Act} {K : Act → World → Prop} {Q : Exit → Act → World → Prop} {X : Prop} (hw : Region.wanted o (yielded ops a.tmps) = true) (s x : Operand) (T tx : TypeId) (ho : o.op = .call { callee := .builtin .append, args := #[s, x], argTypes := #[T, tx] })
    (E : TypeId) (i : TypeInfo) (z : Value) (k bytes : Nat) (ht : P.underlying T = some (.slice E)) (hi : P.info? E = some i) (hz : i.zero = some z) (hik : i.size = k) (hib : i.bytes = bytes) (hzs : z.cells.size = k)
    (v : Value) (n : Nat) (xs : List Value) (r : Option Nat) (hs : a.eval s = v) (hown : Row w E k v n xs r) (xv : Value) (hx : a.eval x = xv) (m : Nat) (news : List Value) (hsrc : Src P k tx xv m news w) (hpos : 0 < m) (h63 : n + m ≤ maxLen) (hbytes : (n + m) * bytes ≤ 140737488355328)
    (h : ∀ g off cap w', Row w' E k (.slice (some ⟨g, off, none⟩) (n + m) cap) (n + m) (xs ++ news) (some g) → Keep r.toList w w' → (r = some g ∨ w.heap.size ≤ g) → K (a.put o.dst (.slice (some ⟨g, off, none⟩) (n + m) cap)) w') :
    if Region.wanted o (yielded ops a.tmps) = true then Oper.wp P o a w K Q else X := by
  rw [if_pos hw]
  obtain ⟨g, off, cap, w', hr, h2, h3, h4⟩ := run_append_row (P := P) (w := w) (ty := o.type) ht hi hz hik hib hzs hown hsrc hpos h63 hbytes
  unfold Oper.wp execOp
  simp only [ho, resolve, invoke, builtin, Sem.run_bind, Sem.run_pure, Result.andThen_ok, List.map_toArray, List.map_cons, List.map_nil, hs, hx, hr]
  exact h g off cap w' h2 h3 h4
/-- a source of one element in a block of its own -/
theorem src_blk {P : Program} {w : World} {T e : TypeId} {k b : Nat} {xs : List Value} {t : TypeId} (hk : P.underlying T = some (.slice e)) (hb : w.heap[b]? = some (.cells xs.toArray t)) (hl : xs.length = 1 * k) (h1 : ∀ u ∈ xs, u.oneCell' = true) : Src P k T (.slice (some ⟨b, 0, none⟩) 1 1) 1 xs w :=
  Src.ofSlice w hk ⟨b, 0, none⟩ 1 1 xs hl (fun j u hj => by
    have hadd : (⟨b, 0, none⟩ : Addr).add j = ⟨b, j, none⟩ := by unfold Addr.add; split <;> simp_all
    rw [hadd]
    simp [World.cell?, hb]
    exact hj) h1
theorem blk_keep {F : List Nat} {w w' : World} {b : Nat} {C : Obj} (hb : w.heap[b]? = some C) (hk : Keep F w w') (hn : b ∉ F) : w'.heap[b]? = some C :=
  (hk.block b (Array.getElem?_eq_some_iff.1 hb).1 hn).trans hb
theorem size_alloc (w : World) (o : Obj) : (w.alloc o).heap.size = w.heap.size + 1 := by simp
theorem heap_new (w : World) (o : Obj) : (w.alloc o).heap[w.heap.size]? = some o := heap_alloc_new w o
theorem lit_alloc {W : World} {b : Nat} {C : Obj} (hb : W.heap[b]? = some C) (ob : Obj) : (W.alloc ob).heap[b]? = some C := (Below.heap_alloc W ob b (Array.getElem?_eq_some_iff.1 hb).1).trans hb
end Go.Emb
