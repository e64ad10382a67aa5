/- The acts that came in, opened. (open_slice_fields: the guide's lemma for slices of structs, as its page bids to copy.) -/
import Derived.Test.YtphfmbkfcjiciaaActs
import Derived.Deep.Slices
import Derived.Deep.Fields
import Derived.ChangeSame
import Derived.SizedLaws
import Derived.KernelRfl
namespace Go.Proofs.Ytphfmbkfcjiciaa
open Go.ChangeShapes Go.WideShapes Go.Deep Go.RowKit Go.Emb

section
variable {H : Type} {enc : TypeId × Value → H} {P : Program} {w : World} {base : Nat} {spare : Nat → Bool} {held : Bool}
theorem open_slice_fields {t e : TypeId} {fs : Array Field} {fuel : Nat} {cs : List Value} {x : DataW H × List MemPlace} (ht : P.underlying t = some (.slice e)) (he : P.underlying e = some (.struct fs))
    (hone : oneCellFields P fs = true) (hC : P.cellsOf e = fs.size) (h : DataW.trod enc P w base spare held fuel t cs = some x) :
    (cs = [.slice none 0 0] ∧ x = (.nil, [])) ∨
    ∃ (a : Addr) (len cap m : Nat) (D : Nat → DataW H) (Pl : Nat → List MemPlace), cs = [.slice (some a) len cap] ∧ base ≤ a.block ∧ len ≤ cap ∧ cap ≤ maxLen ∧ m = (if spare a.block then cap else len) ∧
      x = (.slice ((List.range len).map D) ((List.range (m - len)).map fun j => D (len + j)), MemPlace.row a (m * fs.size) ++ (List.range m).flatMap Pl) ∧
      ∀ i, i < m → ∃ (ys : List (DataW H × List MemPlace)) (n : Nat), D i = .agg (ys.map (·.1)) ∧ Pl i = ys.flatMap (·.2) ∧ ys.length = fs.size ∧
        ∀ (j : Nat) (f : Field), fs[j]? = some f → ∃ (v : Value) (y : DataW H × List MemPlace), w.cell? (a.add (i * fs.size + j)) = some v ∧ ys[j]? = some y ∧ DataW.trod enc P w base spare held n f.type [v] = some y := by
  rcases open_slice ht h with h0 | ⟨a, len, cap, m, n, D, Pl, hcs, hb, hl, hm, hmm, hx, hi⟩
  · exact .inl h0
  · refine .inr ⟨a, len, cap, m, D, Pl, hcs, hb, hl, hm, hmm, by rw [hC] at hx; exact hx, fun i him => ?_⟩
    obtain ⟨cs', hc, ht'⟩ := hi i him
    rw [hC] at hc
    obtain ⟨ys, n', hn', hy, hlen, hyl, hf⟩ := DataW.trod_struct he ht'
    obtain ⟨_, hcl, hat⟩ := World.cells?_some hc
    simp only [Prod.mk.injEq] at hy
    refine ⟨ys, n', hy.1, hy.2, hyl, fun j f hj => ?_⟩
    obtain ⟨ho, hk⟩ := hone_of hone j f hj
    have hjl : j < fs.size := (Array.getElem?_eq_some_iff.1 hj).1
    have hcell := hat j hjl
    have hv : cs'[j]? = some (cs'[j]'(by omega)) := List.getElem?_eq_getElem (by omega)
    have h1 := hf j f hj
    rw [ho, hk] at h1
    have hone' : (cs'.drop j).take 1 = [cs'[j]'(by omega)] := by
      rw [List.drop_eq_getElem_cons (by omega)]
      rfl
    rw [hone'] at h1
    have hys : ys[j]? = some (ys[j]'(by omega)) := List.getElem?_eq_getElem (by omega)
    refine ⟨_, _, ?_, hys, h1.trans hys⟩
    rw [← Go.Deep.add_add, hcell, hv]
end

theorem weights_mem_all {H : Type} {P : Program} {e : TypeId} : ∀ {l : List (DataW H)} {d : DataW H}, d ∈ l → ∀ n ∈ d.weights P e, n ∈ DataW.weightsAll P e l
  | [], _, h, _, _ => by cases h
  | x :: l, d, h, n, hn => by
    simp only [DataW.weightsAll, List.mem_append]
    rcases List.mem_cons.1 h with rfl | h
    · exact .inl hn
    · exact .inr (weights_mem_all h n hn)

/-- a slice of int64 that is read, as it lies -/
theorem open_rd {H : Type} {enc : TypeId × Value → H} {W : World} {fuel : Nat} {v : Value} {y : DataW H × List MemPlace} (h : DataW.trod enc Try.prog W 0 (fun _ => true) true fuel 22 [v] = some y) (hw : ∀ n ∈ y.1.weights Try.prog 22, n ≤ reachBytes) :
    ∃ l : List Int, (∃ o, Rd W 1 v l.length (l.map (Value.int .i64)) o ∧ ∀ b, o = some b → b < W.heap.size) ∧ l.length * 8 ≤ 140737488355328 := by
  rcases open_ints Try.underlying22 Try.underlying2 (by kernel_rfl) h with ⟨hcs, _⟩ | ⟨x, len, c, zs, hcs, _, hl, hm, hz, hy, hcell, hwz⟩
  · simp at hcs
    subst hcs
    exact ⟨[], ⟨none, ⟨by simp, none, 0, rfl, by simp, by simp, .inl ⟨rfl, rfl⟩⟩, by simp⟩, by simp⟩
  · simp at hcs hz
    subst hcs
    have hlen : (zs.take len).length = len := by rw [List.length_take]; omega
    have hb : (zs.take len).length * 8 ≤ 140737488355328 := by
      have hw8 : Try.prog.bytesOf 2 = 8 := by kernel_rfl
      have := hw (((lits (H := H) .i64 (zs.take len)).length + (lits (H := H) .i64 (zs.drop len)).length) * Try.prog.bytesOf 2) (by rw [hy]; simp [DataW.weights, Try.underlying22])
      rw [hw8] at this
      simp [lits] at this
      simp only [reachBytes] at this
      rw [hlen]
      omega
    refine ⟨zs.take len, ?_, hb⟩
    by_cases h0 : len = 0
    · subst h0
      exact ⟨none, ⟨by simp, some x, c, by simp, by simp, hm, .inl ⟨by simp, rfl⟩⟩, by simp⟩
    · obtain ⟨b, off, spot⟩ := x
      have hc := hcell 0 (by omega)
      have hspot : spot = none := by simpa [Addr.add] using World.cell?_spot hc
      subst hspot
      refine ⟨some b, ⟨by simp, _, c, by rw [hlen], by omega, hm, .inr ⟨b, off, rfl, rfl, fun i hi => ?_⟩⟩, ?_⟩
      · rw [hlen] at hi
        have hi2 : i < zs.length := by omega
        have hadd : (⟨b, off, none⟩ : Addr).add i = ⟨b, off + i, none⟩ := by unfold Addr.add; split <;> simp_all
        have := hcell i hi2
        rw [hadd] at this
        rw [this, List.getElem?_map, List.getElem?_take_of_lt (by omega), List.getElem?_eq_getElem hi2]
        simp [List.getD, List.getElem?_eq_getElem hi2]
      · rintro b' ⟨⟩
        exact World.block_lt_of_cell? _ _ (by simpa [Addr.add] using hc)

instance : Inhabited ActV := ⟨⟨0, undef, [], 0, 0⟩⟩

theorem open_acts {H : Type} {enc : TypeId × Value → H} {W : World} {a : Option Addr} {len cap : Nat} {d0 : DataW H} {ps : List MemPlace} (h : DataW.Trod enc Try.prog W 0 (fun _ => true) true 31 (.slice a len cap) d0 ps) (hw : ∀ x ∈ d0.weights Try.prog 31, x ≤ reachBytes) :
    ∃ acts : List ActV, acts.length = len ∧ RdActs W (.slice a len cap) acts := by
  obtain ⟨fuel, hf⟩ := h
  rcases open_slice_fields Try.underlying31 Try.underlying34 (by kernel_rfl) (by kernel_rfl) hf with ⟨hcs, _⟩ | ⟨a', len', cap', m, D, Pl, hcs, _, hl, hm, hmm, hx, hi⟩
  · simp [Value.cells] at hcs
    obtain ⟨rfl, rfl, rfl⟩ := hcs
    exact ⟨[], rfl, none, 0, rfl, by simp, by simp, by simp, .inl rfl⟩
  · simp [Value.cells] at hcs
    obtain ⟨rfl, rfl, rfl⟩ := hcs
    simp at hmm
    subst hmm
    simp only [Prod.mk.injEq] at hx
    have hx1 := hx.1
    have key : ∀ i, i < len → ∃ x : ActV, W.cell? (a'.add (i * 4 + 0)) = some (.int .i64 x.kind) ∧ W.cell? (a'.add (i * 4 + 1)) = some x.lv ∧ W.cell? (a'.add (i * 4 + 2)) = some (.int .i64 x.p) ∧ W.cell? (a'.add (i * 4 + 3)) = some (.int .i64 x.t) ∧
        (∃ o, Rd W 1 x.lv x.l.length (x.l.map (Value.int .i64)) o ∧ ∀ b, o = some b → b < W.heap.size) ∧ x.l.length * 8 ≤ 140737488355328 := by
      intro i him
      obtain ⟨ys, n, hD, _, hyl, hfl⟩ := hi i (by omega)
      obtain ⟨v0, y0, e0, g0, t0⟩ := hfl 0 _ rfl
      obtain ⟨v1, y1, e1, g1, t1⟩ := hfl 1 _ rfl
      obtain ⟨v2, y2, e2, g2, t2⟩ := hfl 2 _ rfl
      obtain ⟨v3, y3, e3, g3, t3⟩ := hfl 3 _ rfl
      obtain ⟨n0, h0, _, _⟩ := DataW.trod_int Try.underlying3 t0
      obtain ⟨n2, h2, _, _⟩ := DataW.trod_int Try.underlying2 t2
      obtain ⟨n3, h3, _, _⟩ := DataW.trod_int Try.underlying2 t3
      simp at h0 h2 h3
      subst h0 h2 h3
      obtain ⟨l, hl1, hl2⟩ := open_rd t1 (fun z hz => by
        refine hw z ?_
        rw [hx1]
        simp only [DataW.weights, Try.underlying31, List.mem_cons, List.mem_append]
        right; left
        refine weights_mem_all (d := D i) (List.mem_map.2 ⟨i, List.mem_range.2 him, rfl⟩) z ?_
        rw [hD]
        simp only [DataW.weights, Try.underlying34]
        exact DataW.weights_mem_each (j := 1) (t := 22) (d := y1.1) rfl (by rw [List.getElem?_map, g1]; rfl) z hz)
      exact ⟨⟨n0, v1, l, n2, n3⟩, e0, e1, e2, e3, hl1, hl2⟩
    obtain ⟨f, hfk⟩ := choose_lt key
    refine ⟨(List.range len).map f, by simp, some a', m, by simp, by simpa using hl, hm, ?_, ?_⟩
    · intro x hxm
      obtain ⟨i, hir, rfl⟩ := List.mem_map.1 hxm
      exact ⟨(hfk i (List.mem_range.1 hir)).2.2.2.2.1, (hfk i (List.mem_range.1 hir)).2.2.2.2.2⟩
    · by_cases h0 : len = 0
      · left; simp [h0]
      · right
        obtain ⟨b, off, spot⟩ := a'
        have hc := (hfk 0 (by omega)).1
        have hspot : spot = none := by simpa [Addr.add] using World.cell?_spot hc
        subst hspot
        have hadd : ∀ i, (⟨b, off, none⟩ : Addr).add i = ⟨b, off + i, none⟩ := by intro i; unfold Addr.add; split <;> simp_all
        refine ⟨b, off, rfl, World.block_lt_of_cell? _ _ (by simpa [Addr.add] using hc), fun i hil => ?_⟩
        simp only [List.length_map, List.length_range] at hil
        obtain ⟨c0, c1, c2, c3, _⟩ := hfk i hil
        rw [hadd] at c0 c1 c2 c3
        simp only [List.getElem_map, List.getElem_range, Nat.add_zero, Nat.add_assoc] at *
        exact ⟨c0, c1, c2, c3⟩

end Go.Proofs.Ytphfmbkfcjiciaa
