/- The document's queue (embersref20): Set. -/
import Derived.Test.YtphfmbkfcjiciaaRef7
namespace Go.Emb
open Go.RowKit
section
variable {P : Program}
/-- the first m of a slice that is read, nil or not -/
theorem Rd.cutHi {T E : TypeId} {k : Nat} (ht : P.underlying T = some (.slice E)) (hk : ∀ w, (sizeOf E).run P w = .ok k w) {w : World} {a : Option Addr} {n c : Nat} {xs : List Value} {o : Option Nat} (h : Rd w k (.slice a n c) n xs o) (m : Nat) (hm : m ≤ n) :
    ∃ v1 o1, (∀ W, (Instr.slice T (.slice a n c) none (some (.int .i64 (m : Int))) none).run P W = .ok v1 W) ∧ Rd w k v1 m (xs.take (m * k)) o1 ∧ (o1 = none ∨ o1 = o) := by
  have h' := h
  obtain ⟨hl, a', c', e, h1, h2, h3⟩ := h
  cases e
  rcases h3 with ⟨h0, rfl⟩ | ⟨b, off, rfl, rfl, h3⟩
  · obtain rfl : m = 0 := by omega
    subst h0
    refine ⟨.slice a 0 c, none, fun W => ?_, ⟨by simp, a, c, rfl, by omega, h2, .inl ⟨rfl, rfl⟩⟩, .inl rfl⟩
    have hb := run_sliceBound (P := P) W .i64 (0 : Int) c .sliceAcap (by omega) (by omega)
    unfold Instr.slice Instr.sliceBounds
    cases a with
    | none => simp [run_underlying ht, hb, hk, Result.andThen]
    | some A =>
      simp [run_underlying ht, hb, hk, Result.andThen]
      by_cases hc : c = 0
      · simp [hc]
      · simp [hc, Addr.add]
  · obtain ⟨o1, g1, g2⟩ := h'.upto m hm
    refine ⟨_, o1, fun W => ?_, g1, g2⟩
    have hb := run_sliceBound (P := P) W .i64 (m : Int) c .sliceAcap (by omega) (by omega)
    unfold Instr.slice Instr.sliceBounds
    simp [run_underlying ht, hb, hk, Result.andThen]
    by_cases hc : c = 0
    · simp [hc]
    · simp [hc, Addr.add]
/-- what is behind the first m -/
theorem Rd.cutLo {T E : TypeId} {k : Nat} (ht : P.underlying T = some (.slice E)) (hk : ∀ w, (sizeOf E).run P w = .ok k w) {w : World} {a : Option Addr} {n c : Nat} {xs : List Value} {o : Option Nat} (h : Rd w k (.slice a n c) n xs o) (m : Nat) (hm : m ≤ n) :
    ∃ v1 o1, (∀ W, (Instr.slice T (.slice a n c) (some (.int .i64 (m : Int))) none none).run P W = .ok v1 W) ∧ Rd w k v1 (n - m) (xs.drop (m * k)) o1 ∧ (o1 = none ∨ o1 = o) := by
  have h' := h
  obtain ⟨hl, a', c', e, h1, h2, h3⟩ := h
  cases e
  rcases h3 with ⟨h0, rfl⟩ | ⟨b, off, rfl, rfl, h3⟩
  · obtain rfl : m = 0 := by omega
    subst h0
    refine ⟨.slice a 0 c, none, fun W => ?_, ⟨by simpa using hl, a, c, rfl, by omega, h2, .inl ⟨rfl, rfl⟩⟩, .inl rfl⟩
    have hb := run_sliceBound (P := P) W .i64 (0 : Int) 0 .sliceB (by omega) (by omega)
    unfold Instr.slice Instr.sliceBounds
    cases a with
    | none => simp [run_underlying ht, hb, hk, Result.andThen]
    | some A =>
      simp [run_underlying ht, hb, hk, Result.andThen]
      by_cases hc : c = 0
      · simp [hc]
      · simp [hc, Addr.add]
  · obtain ⟨o1, g1, g2⟩ := h'.from m hm
    exact ⟨_, o1, fun W => run_slice_lo (k := k) W ht hk b off n c m (by omega), g1, g2⟩
end
end Go.Emb
