/-
  The base, more: parts of a slice that is read.
-/
import Derived.Test.YtlfhnbdeadiedaaBaseApp
namespace Go.Emb
open Go.RowKit
/-- a part of a slice that is read -/
theorem Rd.upTo {w : World} {k b off n c : Nat} {xs : List Value} {o : Option Nat} (h : Rd w k (.slice (some ⟨b, off, none⟩) n c) n xs o) (m : Nat) (hm : m ≤ n) : ∃ o', Rd w k (.slice (some ⟨b, off, none⟩) m c) m (xs.take (m * k)) o' ∧ (o' = none ∨ o' = o) := by
  obtain ⟨hl, a, c', hv, h1, h2, h3⟩ := h
  cases hv
  have hk1 : m * k ≤ n * k := Nat.mul_le_mul_right _ hm
  have hlen : (xs.take (m * k)).length = m * k := by rw [List.length_take, hl]; omega
  by_cases h0 : m = 0
  · exact ⟨none, ⟨hlen, _, c, rfl, by omega, h2, .inl ⟨h0, rfl⟩⟩, .inl rfl⟩
  · rcases h3 with ⟨h3, _⟩ | ⟨b', off', e, ho, h3⟩
    · omega
    · cases e
      exact ⟨o, ⟨hlen, _, c, rfl, by omega, h2, .inr ⟨b, off, rfl, ho, fun i hi => by rw [List.getElem?_take_of_lt hi]; exact h3 i (by omega)⟩⟩, .inr rfl⟩
theorem Rd.fromAt {w : World} {k b off n c : Nat} {xs : List Value} {o : Option Nat} (h : Rd w k (.slice (some ⟨b, off, none⟩) n c) n xs o) (m : Nat) (hm : m ≤ n) : ∃ o', Rd w k (.slice (some ⟨b, sliceOff off c m k, none⟩) (n - m) (c - m)) (n - m) (xs.drop (m * k)) o' ∧ (o' = none ∨ o' = o) := by
  obtain ⟨hl, a, c', hv, h1, h2, h3⟩ := h
  cases hv
  have hk1 : m * k ≤ n * k := Nat.mul_le_mul_right _ hm
  have hlen : (xs.drop (m * k)).length = (n - m) * k := by rw [List.length_drop, hl, Nat.sub_mul]
  by_cases h0 : n - m = 0
  · exact ⟨none, ⟨hlen, _, c - m, rfl, by omega, by omega, .inl ⟨h0, rfl⟩⟩, .inl rfl⟩
  · rcases h3 with ⟨h3, _⟩ | ⟨b', off', e, ho, h3⟩
    · omega
    · cases e
      refine ⟨o, ⟨hlen, _, c - m, rfl, by omega, by omega, .inr ⟨b, _, rfl, ho, fun i hi => ?_⟩⟩, .inr rfl⟩
      rw [Nat.sub_mul] at hi
      unfold sliceOff
      rw [if_neg (by omega), List.getElem?_drop, Nat.add_assoc]
      exact h3 (m * k + i) (by omega)


theorem box_chain {wr W w2 : World} {og : Option Nat} {ob : Obj} (hk : Keep [] (wr.alloc ob) W) (hlt : ∀ b, og = some b → b < wr.heap.size) (hk2 : Keep og.toList W w2) : w2.heap[wr.heap.size]? = some ob := by
  have h1 := hk.size
  rw [hk2.block wr.heap.size (by simp at h1; omega) (by
    cases og with
    | none => simp
    | some b => have := hlt b rfl; simp; omega), hk.block wr.heap.size (by simp) (by simp)]
  exact heap_alloc_new wr ob
end Go.Emb
