import Derived.Test.YtdmmhfbafinkpaaGreatDoorBase
/-
  The base, more: cells of a struct; slices of slices.
-/
namespace Go.Emb
open Go.RowKit

theorem cells3 {w : World} {q : Nat} {x y z : Value} {t : TypeId} (h : w.heap[q]? = some (.cells #[x, y, z] t (0, 0))) :
    w.cell? ⟨q, 0, none⟩ = some x ∧ w.cell? ⟨q, 1, none⟩ = some y ∧ w.cell? ⟨q, 2, none⟩ = some z ∧ w.frozen? ⟨q, 0, none⟩ = false := by
  refine ⟨?_, ?_, ?_, ?_⟩ <;> simp [World.cell?, World.frozen?, h]


theorem heap_setCell_at {w : World} {b i : Nat} {cs : Array Value} {t : TypeId} {f : Nat × Nat} (h : w.heap[b]? = some (.cells cs t f)) (u : Value) : (w.setCell ⟨b, i, none⟩ u).heap[b]? = some (.cells (cs.setIfInBounds i u) t f) := by
  have hlt := (Array.getElem?_eq_some_iff.1 h).1
  simp [World.setCell, Array.getElem?_modify, h]

def sliceOff (off cap lo k : Nat) : Nat := if cap = lo then off else off + lo * k

theorem Row.drop {w : World} {E k b off n cap : Nat} {xs : List Value} (h : Row w E k (.slice (some ⟨b, off, none⟩) n cap) n xs (some b)) (lo : Nat) (hlo : lo ≤ n) :
    Row w E k (.slice (some ⟨b, sliceOff off cap lo k, none⟩) (n - lo) (cap - lo)) (n - lo) (xs.drop (lo * k)) (some b) := by
  obtain ⟨hl, h⟩ := h
  rcases h with ⟨h, _⟩ | ⟨b', off', cap', cs, e1, e2, hb, h1, h2, h3, h5⟩
  · cases h
  cases e1
  cases e2
  have hk1 : lo * k ≤ n * k := Nat.mul_le_mul_right _ hlo
  have hk2 : n * k ≤ cap * k := Nat.mul_le_mul_right _ h1
  refine ⟨by rw [List.length_drop, hl, Nat.sub_mul], .inr ⟨b, _, cap - lo, cs, rfl, rfl, hb, by omega, by omega, ?_, ?_⟩⟩
  · unfold sliceOff
    rw [Nat.sub_mul]
    split <;> omega
  · intro i hi
    rw [Nat.sub_mul] at hi
    unfold sliceOff
    by_cases hc : cap = lo
    · obtain rfl : lo = n := by omega
      omega
    · rw [if_neg hc, List.getElem?_drop, Nat.add_assoc]
      exact h5 (lo * k + i) (by omega)


section
variable {P : Program} (w : World)
theorem run_slice_lo {T E : TypeId} {k : Nat} (ht : P.underlying T = some (.slice E)) (hk : ∀ w, (sizeOf E).run P w = .ok k w) (b off n cap lo : Nat) (h : lo ≤ n) :
    (Instr.slice T (.slice (some ⟨b, off, none⟩) n cap) (some (.int .i64 (lo : Int))) none none).run P w = .ok (.slice (some ⟨b, sliceOff off cap lo k, none⟩) (n - lo) (cap - lo)) w := by
  have h1 : (0 : Int) ≤ (lo : Int) := by omega
  have h2 : (lo : Int) ≤ (n : Int) := by omega
  have hb := run_sliceBound (P := P) w .i64 (lo : Int) n .sliceB h1 h2
  unfold Instr.slice Instr.sliceBounds sliceOff
  simp [run_underlying ht, hb, hk, Result.andThen]
  by_cases hc : cap = lo
  · simp [hc]
  · simp [hc, Addr.add]
end
end Go.Emb
