/- The extents that came in, opened. (open_slice_fields: the guide's lemma for slices of structs, as its page bids to copy.) -/
import Derived.Test.YtlfhnbdeadiedaaExt12
import Derived.Deep.Slices
import Derived.Deep.Fields
import Derived.ChangeSame
import Derived.SizedLaws
import Derived.KernelRfl
namespace Go.Proofs.Ytlfhnbdeadiedaa
open Go.ChangeShapes Go.WideShapes Go.Deep Go.RowKit Go.Emb Go.Emb.Ext

section
variable {H : Type} {enc : TypeId × Value → H} {P : Program} {w : World} {base : Nat} {spare : Nat → Bool} {held : Bool}
theorem open_slice_fields {t e : TypeId} {fs : Array Field} {fuel : Nat} {cs : List Value} {x : DataW H × List MemPlace} (ht : P.underlying t = some (.slice e)) (he : P.underlying e = some (.struct fs))
    (hone : oneCellFields P fs = true) (hC : P.cellsOf e = fs.size) (h : DataW.trod enc P w base spare held fuel t cs = some x) :
    (cs = [.slice none 0 0] ∧ x = (.nil, [])) ∨
    ∃ (a : Addr) (len cap m : Nat) (D : Nat → DataW H) (Pl : Nat → List MemPlace), cs = [.slice (some a) len cap] ∧ base ≤ a.block ∧ len ≤ cap ∧ cap ≤ maxLen ∧ m = (if spare a.block then cap else len) ∧
      x = (.slice ((List.range len).map D) ((List.range (m - len)).map fun j => D (len + j)), MemPlace.row a (m * fs.size) ++ (List.range m).flatMap Pl) ∧
      ∀ i, i < m → ∃ (ys : List (DataW H × List MemPlace)) (n : Nat), D i = .agg (ys.map (·.1)) ∧ Pl i = ys.flatMap (·.2) ∧ ys.length = fs.size ∧
        ∀ (j : Nat) (f : Field), fs[j]? = some f → ∃ (v : Value) (y : DataW H × List MemPlace), w.cell? (a.add (i * fs.size + j)) = some v ∧ ys[j]? = some y ∧ DataW.trod enc P w base spare held n f.type [v] = some y := by
  rcases open_slice ht h with h0 | ⟨a, len, cap, m, n, D, Pl, hcs, hb, hl, hm, hmm, hx, hi⟩
  · exact .inl h0
  · refine .inr ⟨a, len, cap, m, D, Pl, hcs, hb, hl, hm, hmm, by rw [hC] at hx; exact hx, fun i him => ?_⟩
    obtain ⟨cs', hc, ht'⟩ := hi i him
    rw [hC] at hc
    obtain ⟨ys, n', hn', hy, hlen, hyl, hf⟩ := DataW.trod_struct he ht'
    obtain ⟨_, hcl, hat⟩ := World.cells?_some hc
    simp only [Prod.mk.injEq] at hy
    refine ⟨ys, n', hy.1, hy.2, hyl, fun j f hj => ?_⟩
    obtain ⟨ho, hk⟩ := hone_of hone j f hj
    have hjl : j < fs.size := (Array.getElem?_eq_some_iff.1 hj).1
    have hcell := hat j hjl
    have hv : cs'[j]? = some (cs'[j]'(by omega)) := List.getElem?_eq_getElem (by omega)
    have h1 := hf j f hj
    rw [ho, hk] at h1
    have hone' : (cs'.drop j).take 1 = [cs'[j]'(by omega)] := by
      rw [List.drop_eq_getElem_cons (by omega)]
      rfl
    rw [hone'] at h1
    have hys : ys[j]? = some (ys[j]'(by omega)) := List.getElem?_eq_getElem (by omega)
    refine ⟨_, _, ?_, hys, h1.trans hys⟩
    rw [← Go.Deep.add_add, hcell, hv]
end


theorem open_ext {H : Type} {enc : TypeId × Value → H} {W : World} {a : Option Addr} {len cap : Nat} {d0 : DataW H} {ps : List MemPlace} (h : DataW.Trod enc Try.prog W 0 (fun _ => true) true 22 (.slice a len cap) d0 ps) :
    ∃ l : List E, l.length = len ∧ HasE W (.slice a len cap) l ∧ ∀ x ∈ l, (-9223372036854775808 ≤ x.1 ∧ x.1 ≤ 9223372036854775807) ∧ (-9223372036854775808 ≤ x.2 ∧ x.2 ≤ 9223372036854775807) := by
  obtain ⟨fuel, hf⟩ := h
  rcases open_slice_fields Try.underlying22 Try.underlying36 (by kernel_rfl) (by kernel_rfl) hf with ⟨hcs, _⟩ | ⟨a', len', cap', m, D, Pl, hcs, _, hl, hm, hmm, hx, hi⟩
  · simp [Value.cells] at hcs
    obtain ⟨rfl, rfl, rfl⟩ := hcs
    exact ⟨[], rfl, ⟨none, ⟨by simp, none, 0, rfl, by simp, by simp, .inl ⟨rfl, rfl⟩⟩, by simp⟩, by simp⟩
  · simp [Value.cells] at hcs
    obtain ⟨rfl, rfl, rfl⟩ := hcs
    simp at hmm
    subst hmm
    have key : ∀ i, i < len → ∃ x : E, W.cell? (a'.add (i * 2 + 0)) = some (.int .i64 x.1) ∧ W.cell? (a'.add (i * 2 + 1)) = some (.int .i64 x.2) ∧ (-9223372036854775808 ≤ x.1 ∧ x.1 ≤ 9223372036854775807) ∧ (-9223372036854775808 ≤ x.2 ∧ x.2 ≤ 9223372036854775807) := by
      intro i him
      obtain ⟨ys, n, hD, _, hyl, hfl⟩ := hi i (by omega)
      obtain ⟨v0, y0, e0, g0, t0⟩ := hfl 0 _ rfl
      obtain ⟨v1, y1, e1, g1, t1⟩ := hfl 1 _ rfl
      obtain ⟨n0, h0, _, hw0⟩ := DataW.trod_int Try.underlying3 t0
      obtain ⟨n1, h1, _, hw1⟩ := DataW.trod_int Try.underlying3 t1
      simp at h0 h1
      subst h0 h1
      simp [Lit.wf, IntKind.min, IntKind.max, IntKind.signed, IntKind.bits] at hw0 hw1
      exact ⟨(n0, n1), e0, e1, by simp; omega, by simp; omega⟩
    obtain ⟨f, hfk⟩ := choose_lt key
    refine ⟨(List.range len).map f, by simp, ?_, ?_⟩
    · by_cases h0 : len = 0
      · subst h0
        exact ⟨none, ⟨by simp, _, m, rfl, by simp, hm, .inl ⟨by simp, rfl⟩⟩, by simp⟩
      · obtain ⟨b, off, spot⟩ := a'
        have hc := (hfk 0 (by omega)).1
        have hspot : spot = none := by simpa [Addr.add] using World.cell?_spot hc
        subst hspot
        have hadd : ∀ i, (⟨b, off, none⟩ : Addr).add i = ⟨b, off + i, none⟩ := by intro i; unfold Addr.add; split <;> simp_all
        have hfl : (((List.range len).map f).flatMap encE).length = len * 2 := by
          have : ∀ l : List E, (l.flatMap encE).length = l.length * 2 := fun l => by
            induction l with
            | nil => rfl
            | cons a l ih => rw [List.flatMap_cons, List.length_append, ih]; simp [encE]; omega
          rw [this]; simp
        refine ⟨some b, ⟨by rw [hfl]; simp, _, m, by simp, by simpa using hl, hm, .inr ⟨b, off, rfl, rfl, fun i hi => ?_⟩⟩, ?_⟩
        · have hll : ((List.range len).map f).length = len := by simp
          rw [hll] at hi
          have hi2 : i / 2 < len := by omega
          obtain ⟨e1, e2⟩ := flatE ((List.range len).map f) (i / 2) (by rw [hll]; exact hi2)
          obtain ⟨c0, c1, _⟩ := hfk (i / 2) hi2
          rw [hadd] at c0 c1
          simp only [List.getElem_map, List.getElem_range, Nat.add_zero] at e1 e2 c0
          rcases Nat.mod_two_eq_zero_or_one i with h | h
          · have : i / 2 * 2 = i := by omega
            rw [this] at e1 c0
            rw [c0, e1]
          · have : i / 2 * 2 + 1 = i := by omega
            rw [this] at e2 c1
            rw [c1, e2]
        · rintro b' ⟨⟩
          exact World.block_lt_of_cell? _ _ (by simpa [Addr.add] using hc)
    · intro x hxm
      obtain ⟨i, hir, rfl⟩ := List.mem_map.1 hxm
      exact (hfk i (List.mem_range.1 hir)).2.2
end Go.Proofs.Ytlfhnbdeadiedaa
