/-
  The base, more: appending within a fence; what a range over a function keeps of rows.
-/
import Derived.Test.YtdeghoigpcbmcaaBase2
import Derived.RangeFuncNested
import Derived.RangeFuncBound
import Derived.RangeFuncCalls
import Derived.RangeFuncLeaves
import Derived.Shelf.Abstract
import Derived.Shelf.RegionOpen
import Derived.OwnWalkIn
import Derived.TacticsInMore
import Derived.LoopNIn
import Derived.LoopIn
namespace Go.Emb
open Go.RowKit

theorem wpListIn_append_row {F : Fence} {fn : Nat} {P : Program} (w : World) {ops : Array Oper} {rest : List Oper} {o : Oper} {a : Act} {Q : Exit → Act → World → Prop} (hgd : o.guard = none) (s x : Operand) (T tx : TypeId) (ho : o.op = .call { callee := .builtin .append, args := #[s, x], argTypes := #[T, tx] })
    (E : TypeId) (i : TypeInfo) (z : Value) (k bytes : Nat) (ht : P.underlying T = some (.slice E)) (hi : P.info? E = some i) (hz : i.zero = some z) (hik : i.size = k) (hib : i.bytes = bytes) (hzs : z.cells.size = k)
    (v : Value) (n : Nat) (xs : List Value) (r : Option Nat) (hs : a.eval s = v) (hown : Row w E k v n xs r) (xv : Value) (hx : a.eval x = xv) (m : Nat) (news : List Value) (hsrc : Src P k tx xv m news w) (hpos : 0 < m) (h63 : n + m ≤ maxLen) (hbytes : (n + m) * bytes ≤ 140737488355328)
    (h : ∀ g off cap w', Row w' E k (.slice (some ⟨g, off, none⟩) (n + m) cap) (n + m) (xs ++ news) (some g) → Keep r.toList w w' → (r = some g ∨ w.heap.size ≤ g) → wpListIn F fn P ops Q rest (a.put o.dst (.slice (some ⟨g, off, none⟩) (n + m) cap)) w') : wpListIn F fn P ops Q (o :: rest) a w := by
  refine wpListIn_plain hgd fun K' hK' => ?_
  obtain ⟨g, off, cap, w', hr, h2, h3, h4⟩ := run_append_row (P := P) (w := w) (ty := o.type) ht hi hz hik hib hzs hown hsrc hpos h63 hbytes
  unfold Oper.wpIn
  refine ⟨?_, ?_⟩
  · simp [Oper.about, ho, resolve, Target.leads, Sem.run_pure]
  · rw [Oper.semAt_plain F _ _ (by rw [ho]; intro c hc'; cases hc')]
    simp [execOp, ho, resolve, invoke, builtin, hs, hx, hr, Result.andThen]
    exact hK' _ _ (h g off cap w' h2 h3 h4)

theorem Row.cells {w : World} {E k : Nat} {v : Value} {n : Nat} {xs : List Value} {b : Nat} (h : Row w E k v n xs (some b)) : ∃ o : Obj, w.heap[b]? = some o ∧ o.isCells = true := by
  obtain ⟨_, h⟩ := h
  rcases h with ⟨h, _⟩ | ⟨b', off, cap, cs, e1, _, hb, _⟩
  · cases h
  · cases e1; exact ⟨_, hb, rfl⟩

/-- a row stands where blocks that are no cells turn, or new ones come -/
theorem Row.grown {W W' : World} {row : Option Nat} {E k : Nat} {v : Value} {n : Nat} {xs : List Value} {o : Option Nat} (h : Row W E k v n xs o) (hg : W.grownBy W' row) (hr : ∀ r, row = some r → ∃ o : Obj, W.heap[r]? = some o ∧ o.isCells = false) : Row W' E k v n xs o := by
  have hc := fun b (e : o = some b) => Row.cells (e ▸ h)
  have hlt := h.lt
  obtain ⟨hl, h⟩ := h
  refine ⟨hl, ?_⟩
  rcases h with h | ⟨b, off, cap, cs, rfl, rfl, hb, r⟩
  · exact .inl h
  · refine .inr ⟨b, off, cap, cs, rfl, rfl, (hg.block b (hlt b rfl) (fun e => ?_)).trans hb, r⟩
    obtain ⟨o1, h1, h2⟩ := hr b e.symm
    obtain ⟨o2, h3, h4⟩ := hc b rfl
    rw [h1] at h3; cases h3
    rw [h2] at h4; cases h4

/-- what keeps all but cells' blocks keeps what is no cells -/
theorem Keep.others {F : List Nat} {w w' : World} (h : Keep F w w') (hF : ∀ b ∈ F, ∃ o : Obj, w.heap[b]? = some o ∧ o.isCells = true) : KeepsOthers w w' :=
  ⟨h.size, fun k o hk ho => (h.block k (Array.getElem?_eq_some_iff.1 hk).1 (fun hm => by
    obtain ⟨o2, h3, h4⟩ := hF k hm
    rw [hk] at h3; cases h3
    rw [ho] at h4; cases h4)).trans hk⟩
end Go.Emb
