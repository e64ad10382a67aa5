/-
  Things that lie apart in new memory: what each says, which blocks it takes; a step that writes one leaves the others.
-/
import Derived.Test.YtphfmbkfcjiciaaBase2
namespace Go.Emb
open Go.RowKit

structure Thing where
  P : World → Prop
  G : List Nat
  st : ∀ {w w' : World} {F : List Nat}, P w → Keep F w w' → (∀ b ∈ G, b ∉ F) → P w'

/-- Since w0 nothing old has turned; the things lie in new blocks, apart. -/
structure Sep (w0 : World) (L : List Thing) (w : World) : Prop where
  keep : Keep [] w0 w
  all : ∀ t ∈ L, t.P w ∧ ∀ b ∈ t.G, w0.heap.size ≤ b ∧ b < w.heap.size
  apart : L.Pairwise fun s t => ∀ b ∈ s.G, b ∉ t.G

theorem Sep.nil (w : World) : Sep w [] w := ⟨Keep.refl _ _, by simp, by simp⟩

theorem Sep.kept {w0 w w' : World} {L : List Thing} (h : Sep w0 L w) (k : Keep [] w w') : Sep w0 L w' :=
  ⟨h.keep.trans k (by simp), fun t ht => ⟨t.st (h.all t ht).1 k (by simp), fun b hb => ⟨((h.all t ht).2 b hb).1, Nat.lt_of_lt_of_le ((h.all t ht).2 b hb).2 k.size⟩⟩, h.apart⟩

theorem Sep.get {w0 w : World} {L : List Thing} (h : Sep w0 L w) {t : Thing} (ht : t ∈ L) : t.P w := (h.all t ht).1

theorem Sep.step {w0 w w' : World} {L : List Thing} {t t' : Thing} (h : Sep w0 (t :: L) w) (hk : Keep t.G w w') (hP : t'.P w') (hG : ∀ b ∈ t'.G, (b ∈ t.G ∨ w.heap.size ≤ b) ∧ b < w'.heap.size) : Sep w0 (t' :: L) w' := by
  obtain ⟨ha, hb⟩ := List.pairwise_cons.1 h.apart
  have ht := h.all t (by simp)
  refine ⟨h.keep.trans hk (fun x hx => .inr (ht.2 x hx).1), ?_, List.pairwise_cons.2 ⟨?_, hb⟩⟩
  · intro s hs
    rcases List.mem_cons.1 hs with rfl | hs
    · refine ⟨hP, fun b hb => ⟨?_, (hG b hb).2⟩⟩
      rcases (hG b hb).1 with h1 | h1
      · exact (ht.2 b h1).1
      · have := h.keep.size; omega
    · have hs' := h.all s (by simp [hs])
      exact ⟨s.st hs'.1 hk (fun b hb hn => ha s hs b hn hb), fun b hb => ⟨(hs'.2 b hb).1, Nat.lt_of_lt_of_le (hs'.2 b hb).2 hk.size⟩⟩
  · intro s hs b hb hn
    rcases (hG b hb).1 with h1 | h1
    · exact ha s hs b h1 hn
    · have := ((h.all s (by simp [hs])).2 b hn).2; omega

theorem Sep.add {w0 w w' : World} {L : List Thing} {t : Thing} (h : Sep w0 L w) (hk : Keep [] w w') (hP : t.P w') (hG : ∀ b ∈ t.G, w.heap.size ≤ b ∧ b < w'.heap.size) : Sep w0 (t :: L) w' := by
  have h' := h.kept hk
  refine ⟨h'.keep, ?_, List.pairwise_cons.2 ⟨?_, h'.apart⟩⟩
  · intro s hs
    rcases List.mem_cons.1 hs with rfl | hs
    · exact ⟨hP, fun b hb => ⟨by have := h.keep.size; have := (hG b hb).1; omega, (hG b hb).2⟩⟩
    · exact h'.all s hs
  · intro s hs b hb hn
    have := ((h.all s hs).2 b hn).2
    have := (hG b hb).1
    omega

theorem Sep.drop {w0 w : World} {L : List Thing} {t : Thing} (h : Sep w0 (t :: L) w) : Sep w0 L w :=
  ⟨h.keep, fun s hs => h.all s (by simp [hs]), (List.pairwise_cons.1 h.apart).2⟩

theorem Sep.perm {w0 w : World} {L L' : List Thing} (h : Sep w0 L w) (hp : L.Perm L') : Sep w0 L' w :=
  ⟨h.keep, fun s hs => h.all s (hp.mem_iff.2 hs), (hp.pairwise_iff (fun {a b} hab c hc hn => hab c hn hc)).1 h.apart⟩
theorem Sep.swap {w0 w : World} {L : List Thing} {s t : Thing} (h : Sep w0 (s :: t :: L) w) : Sep w0 (t :: s :: L) w := h.perm (List.Perm.swap _ _ _)

/-- what lies in old blocks, or in another thing's, is none of the first thing's -/
theorem Sep.old {w0 w : World} {L : List Thing} {t : Thing} (h : Sep w0 (t :: L) w) {b : Nat} (hb : b < w0.heap.size) : b ∉ t.G := fun hn => by
  have := ((h.all t (by simp)).2 b hn).1; omega
theorem Sep.other {w0 w : World} {L : List Thing} {t s : Thing} (h : Sep w0 (t :: L) w) (hs : s ∈ L) {b : Nat} (hb : b ∈ s.G) : b ∉ t.G := fun hn => (List.pairwise_cons.1 h.apart).1 s hs b hn hb

/-- a slice that is read -/
def TRd (k : Nat) (v : Value) (n : Nat) (xs : List Value) (o : Option Nat) : Thing :=
  ⟨fun w => Rd w k v n xs o, o.toList, fun h hk hn => h.keep hk (fun b hb => hn b (by simp [hb]))⟩
/-- a slice that is owned -/
def TRow (E k : Nat) (v : Value) (n : Nat) (xs : List Value) (o : Option Nat) : Thing :=
  ⟨fun w => Row w E k v n xs o, o.toList, fun h hk hn => h.keep hk (fun b hb => hn b (by simp [hb]))⟩

theorem Row.rdT {w : World} {E k : Nat} {v : Value} {n : Nat} {xs : List Value} {o : Option Nat} (h : Row w E k v n xs o) (hn : 0 < n ∨ o = none) : Rd w k v n xs o := by
  obtain ⟨o', h1, h2⟩ := h.rd
  rcases h2 with rfl | rfl
  · rcases hn with hn | rfl
    · obtain ⟨_, a, c, rfl, _, _, h3⟩ := h1
      rcases h3 with ⟨h3, _⟩ | ⟨b, off, _, h3, _⟩
      · omega
      · cases h3
    · exact h1
  · exact h1

/-- an owned slice that is only read from now on -/
theorem Sep.addRow {w0 w w' : World} {L : List Thing} {E k : Nat} {v : Value} {n : Nat} {xs : List Value} {o : Option Nat} (h : Sep w0 L w) (hk : Keep [] w w') (hr : Row w' E k v n xs o) (ho : ∀ b, o = some b → w.heap.size ≤ b) : ∃ o', Sep w0 (TRd k v n xs o' :: L) w' := by
  obtain ⟨o', h1, h2⟩ := hr.rd
  refine ⟨o', h.add hk h1 (fun b hb => ?_)⟩
  simp only [TRd, Option.mem_toList] at hb
  rcases h2 with rfl | rfl
  · cases hb
  · exact ⟨ho b hb, hr.lt b hb⟩

end Go.Emb
