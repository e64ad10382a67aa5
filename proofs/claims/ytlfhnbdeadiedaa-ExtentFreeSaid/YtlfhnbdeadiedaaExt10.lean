/- Extents: Take: its words. -/
import Derived.Test.YtlfhnbdeadiedaaExt9
import Derived.WalkLawsBesides
namespace Go.Emb
open Go.RowKit
theorem Row.setAt {w : World} {E k b off n cap : Nat} {xs : List Value} (h : Row w E k (.slice (some ⟨b, off, none⟩) n cap) n xs (some b)) (j : Nat) (hj : j < n * k) (u : Value) :
    Row (w.setCell ⟨b, off + j, none⟩ u) E k (.slice (some ⟨b, off, none⟩) n cap) n (xs.set j u) (some b) := by
  obtain ⟨hl, h⟩ := h
  rcases h with ⟨h, _⟩ | ⟨b', off', cap', cs, e1, e2, hb, h1, h2, h3, h5⟩
  · cases h
  cases e1; cases e2
  have hk2 : n * k ≤ cap * k := Nat.mul_le_mul_right _ h1
  refine ⟨by simpa using hl, .inr ⟨b, off, cap, _, rfl, rfl, heap_setCell_at hb _, h1, h2, by simpa using h3, fun i hi => ?_⟩⟩
  rw [Array.getElem?_setIfInBounds, List.getElem?_set]
  by_cases he : off + j = off + i
  · obtain rfl : i = j := by omega
    simp only [if_true]
    rw [if_pos (by omega), if_pos (by omega)]
  · rw [if_neg he, if_neg (by omega)]
    exact h5 i hi
theorem Row.notFrozen {w : World} {E k b off n cap : Nat} {xs : List Value} (h : Row w E k (.slice (some ⟨b, off, none⟩) n cap) n xs (some b)) (j : Nat) : w.frozen? ⟨b, j, none⟩ = false := by
  obtain ⟨hl, h⟩ := h
  rcases h with ⟨h, _⟩ | ⟨b', off', cap', cs, e1, e2, hb, h1, h2, h3, h5⟩
  · cases h
  cases e1; cases e2
  simp [World.frozen?, hb]
end Go.Emb
namespace Go.Emb.Ext
theorem updI_set {l : List E} {i : Nat} {x : E} (hx : l[i]? = some x) {k : Int} (h : k < x.2) : updI l i k = l.set i (x.1 + k, x.2 - k) := by
  rw [updI_eq hx]
  unfold restAt
  rw [if_pos h, List.set_eq_take_append_cons_drop, if_pos (List.getElem?_eq_some_iff.1 hx).1]
  simp
theorem updI_erase {l : List E} {i : Nat} {x : E} (hx : l[i]? = some x) {k : Int} (h : ¬ k < x.2) : updI l i k = l.eraseIdx i := by
  rw [updI_eq hx]
  unfold restAt
  rw [if_neg h, List.eraseIdx_eq_take_drop_succ]
  simp
theorem updI_right {l : List E} {i : Nat} {x : E} (hx : l[i]? = some x) {k : Int} (h1 : 1 ≤ k) (hr : ∀ y ∈ l, right y = true) : ∀ y ∈ updI l i k, right y = true := by
  have hxr := (right_iff x).1 (hr x (List.mem_of_getElem? hx))
  rw [updI_eq hx]
  unfold restAt
  intro y hy
  rcases List.mem_append.1 hy with hy | hy
  · rcases List.mem_append.1 hy with hy | hy
    · exact hr y (List.mem_of_mem_take hy)
    · split at hy
      · simp at hy; subst hy; rw [right_iff]; simp; omega
      · simp at hy
  · exact hr y (List.mem_of_mem_drop hy)
theorem updI_len {l : List E} {i : Nat} {x : E} (hx : l[i]? = some x) (k : Int) : (updI l i k).length ≤ l.length := by
  by_cases h : k < x.2
  · rw [updI_set hx h]; simp
  · rw [updI_erase hx h, List.length_eraseIdx]; split <;> omega
/-- what Take comes to -/
def TakeRes (n most : Int) (l got left : List E) (err : Int) : Prop :=
  ((n < 0 ∨ most < 0) ∧ err = 2 ∧ got = [] ∧ left = []) ∨
  ((0 ≤ n ∧ 0 ≤ most) ∧ ∃ a e1, JoinRes l a e1 ∧ ((e1 ≠ 0 ∧ err = e1 ∧ got = [] ∧ left = []) ∨
    (e1 = 0 ∧ (sumL a < n ∨ (n ≤ sumL a ∧ takeL most.toNat n a [] = none)) ∧ err = 5 ∧ got = [] ∧ left = []) ∨
    (e1 = 0 ∧ n ≤ sumL a ∧ ∃ g, takeL most.toNat n a [] = some (g, left) ∧ (∀ x ∈ g, right x = true) ∧ JoinRes g got err)))
end Go.Emb.Ext
namespace Go.Proofs.Ytlfhnbdeadiedaa
open Go.RowKit Go.Emb Go.Lib Go.Emb.Ext Go.Shelf Go.Sort

theorem flat_set1 (l : List E) (i : Nat) (u v : Int) (hi : i < l.length) (hv : l[i].2 = v) : (l.flatMap encE).set (i * 2) (.int .i64 u) = (l.set i (u, v)).flatMap encE := by
  induction l generalizing i with
  | nil => simp at hi
  | cons x l ih =>
    cases i with
    | zero => simp at hv; simp [encE, hv]
    | succ i =>
      rw [List.flatMap_cons, List.set_cons_succ, List.flatMap_cons, ← ih i (by simpa using hi) (by simpa using hv), List.set_append]
      have h1 : (encE x).length = 2 := rfl
      rw [h1, if_neg (by omega), show (i + 1) * 2 - 2 = i * 2 by omega]
theorem flat_set2 (l : List E) (i : Nat) (u v : Int) (hi : i < l.length) (hv : l[i].1 = v) : (l.flatMap encE).set (i * 2 + 1) (.int .i64 u) = (l.set i (v, u)).flatMap encE := by
  induction l generalizing i with
  | nil => simp at hi
  | cons x l ih =>
    cases i with
    | zero => simp at hv; simp [encE, hv]
    | succ i =>
      rw [List.flatMap_cons, List.set_cons_succ, List.flatMap_cons, ← ih i (by simpa using hi) (by simpa using hv), List.set_append]
      have h1 : (encE x).length = 2 := rfl
      rw [h1, if_neg (by omega), show (i + 1) * 2 + 1 - 2 = i * 2 + 1 by omega]
/-- both cells of the one at i are set -/
theorem RowE.set2 {w : World} {b off c i : Nat} {l : List E} (h : RowE w (.slice (some ⟨b, off, none⟩) l.length c) l (some b)) (hi : i < l.length) (u1 u2 : Int) (n : Nat) :
    RowE (((w.setCell ⟨b, off + i * 2, none⟩ (.int .i64 u1)).drewN n).setCell ⟨b, off + i * 2 + 1, none⟩ (.int .i64 u2)) (.slice (some ⟨b, off, none⟩) l.length c) (l.set i (u1, u2)) (some b) := by
  unfold RowE at *
  have h1 := Row.setAt h (i * 2) (by omega) (.int .i64 u1)
  rw [flat_set1 l i u1 l[i].2 hi rfl] at h1
  have h1' := h1.keep ((Keep.refl [] _).drewN n) (by simp)
  have hl : (l.set i (u1, l[i].2)).length = l.length := by simp
  have h2 := Row.setAt h1' (i * 2 + 1) (by omega) (.int .i64 u2)
  rw [flat_set2 _ i u2 u1 (by simpa using hi) (by simp)] at h2
  rw [List.set_set] at h2
  rw [List.length_set]
  exact h2

def TakeP (w : World) (n most : Int) (l : List E) (e : Ending) (w' : World) : Prop :=
  ∃ vg vl og ol got left err, e = .returned (.tuple #[vg, vl, .int .i64 err]) ∧ TakeRes n most l got left err ∧ RowE w' vg got og ∧ RowE w' vl left ol ∧ (∀ b, og = some b → w.heap.size ≤ b) ∧ (∀ b, ol = some b → w.heap.size ≤ b) ∧ Keep [] w w'

/-- the loop of Take -/
structure TakeR (w : World) (a : List E) (m0 : Nat) (n0 : Int) (m : Nat) (n : Int) (vg vl : Value) (left got : List E) (og ol : Option Nat) (wr : World) : Prop where
  same : takeL m0 n0 a [] = takeL m n left got
  inv : TInv a n0 n left got
  n0' : 0 ≤ n
  nle : n ≤ sumL left
  rl : ∀ x ∈ left, right x = true
  rg : ∀ x ∈ got, right x = true
  rowl : RowE wr vl left ol
  rowg : RowE wr vg got og
  apart : ∀ b, ol = some b → og ≠ some b
  newg : ∀ b, og = some b → w.heap.size ≤ b
  newl : ∀ b, ol = some b → w.heap.size ≤ b
  keep : Keep [] w wr
  ll : left.length ≤ a.length
  lg : (got.length : Int) ≤ n0 - n
end Go.Proofs.Ytlfhnbdeadiedaa
