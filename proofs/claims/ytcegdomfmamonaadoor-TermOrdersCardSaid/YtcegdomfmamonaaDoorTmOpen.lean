/- The terms that came in, opened. -/
import Derived.Test.YtcegdomfmamonaaDoorTm15
import Derived.Deep.Slices
import Derived.Deep.Fields
import Derived.ChangeSame
import Derived.SizedLaws
import Derived.KernelRfl
namespace Go.Proofs.YtcegdomfmamonaaDoor
open Go.ChangeShapes Go.WideShapes Go.Deep Go.RowKit Go.Emb

instance : Inhabited Tm := ⟨.mk 0 0 ⟨#[]⟩ (.slice none 0 0) []⟩
theorem weights_mem_all {H : Type} {P : Program} {e : TypeId} : ∀ {l : List (DataW H)} {d : DataW H}, d ∈ l → ∀ n ∈ d.weights P e, n ∈ DataW.weightsAll P e l
  | [], _, h, _, _ => by cases h
  | x :: l, d, h, n, hn => by
    simp only [DataW.weightsAll, List.mem_append]
    rcases List.mem_cons.1 h with rfl | h
    · exact .inl hn
    · exact .inr (weights_mem_all h n hn)
theorem cellsTerm : Tryd.prog.cellsOf 31 = 4 := by kernel_rfl
theorem cellsInt : Tryd.prog.cellsOf 3 = 1 := by kernel_rfl
theorem cellsInt64 : Tryd.prog.cellsOf 2 = 1 := by kernel_rfl
theorem cellsString : Tryd.prog.cellsOf 9 = 1 := by kernel_rfl
theorem cellsTerms : Tryd.prog.cellsOf 22 = 1 := by kernel_rfl
theorem bytesTerm : Tryd.prog.bytesOf 31 = 56 := by kernel_rfl
theorem flat4_at (l : List Tm) (k j : Nat) (h : k < l.length) (hj : j < 4) : (l.flatMap encTm)[k * 4 + j]? = (encTm l[k])[j]? := by
  obtain ⟨g0, g1, g2, g3⟩ := flat4_get l k h
  match j, hj with
  | 0, _ => exact g0
  | 1, _ => exact g1
  | 2, _ => exact g2
  | 3, _ => exact g3

section
variable {H : Type} {enc : TypeId × Value → H} {W : World}
theorem open_terms_of {n : Nat} (IH : ∀ cs y, DataW.trod enc Tryd.prog W 0 (fun _ => true) true n 31 cs = some y → (∀ z ∈ y.1.weights Tryd.prog 31, z ≤ reachBytes) → ∃ t : Tm, cs = encTm t ∧ RdTm W.heap.size W t)
    {v : Value} {y : DataW H × List MemPlace} (h : DataW.trod enc Tryd.prog W 0 (fun _ => true) true (n + 1) 22 [v] = some y) (hw : ∀ z ∈ y.1.weights Tryd.prog 22, z ≤ reachBytes) : ∃ l : List Tm, HasT W.heap.size W v l ∧ (l.length + 1) * 56 ≤ 140737488355328 := by
  rcases DataW.trod_slice Tryd.underlying22 h with ⟨hcs, _⟩ | ⟨a, len, cap, elems, rest, n', hn, hcs, rfl, hb, hl, hm, hlen, hel, -, -⟩
  · simp at hcs; subst hcs; exact ⟨[], hasT_nil, by simp⟩
  · obtain rfl : n' = n := by omega
    simp at hcs; subst hcs
    rw [cellsTerm] at hel
    have key : ∀ i, i < len → ∃ t : Tm, W.cells? 0 (a.add (i * 4)) 4 = some (encTm t) ∧ RdTm W.heap.size W t := by
      intro i hi
      have h1 := hel i hi
      rw [List.getElem?_eq_getElem (by omega)] at h1
      obtain ⟨cs', h2, h3⟩ := Option.bind_eq_some_iff.1 h1
      obtain ⟨t, rfl, ht⟩ := IH cs' _ h3 (fun z hz => hw z (by
        simp only [DataW.weights, Tryd.underlying22, List.mem_cons, List.mem_append]
        right; left
        exact weights_mem_all (List.mem_map.2 ⟨_, List.getElem_mem _, rfl⟩) z hz))
      exact ⟨t, h2, ht⟩
    obtain ⟨f, hf⟩ := choose_lt key
    have hbytes : (len + 1) * 56 ≤ 140737488355328 := by
      have := hw (((elems.map (·.1)).length + (rest.map (·.1)).length) * Tryd.prog.bytesOf 31) (by simp [DataW.weights, Tryd.underlying22])
      rw [bytesTerm] at this
      simp only [List.length_map, reachBytes] at this
      omega
    have hll : ((List.range len).map f).length = len := by simp
    refine ⟨(List.range len).map f, ⟨?_, by rw [hll]; omega, ?_⟩, by rw [hll]; exact hbytes⟩
    · by_cases h0 : len = 0
      · subst h0
        exact ⟨none, ⟨by simp, _, cap, rfl, by simp, hm, .inl ⟨by simp, rfl⟩⟩, by simp⟩
      · obtain ⟨b, off, spot⟩ := a
        obtain ⟨_, _, hat0⟩ := World.cells?_some (hf 0 (by omega)).1
        have hc := hat0 0 (by omega)
        have hspot : spot = none := by simpa [Addr.add, encTm] using World.cell?_spot (hc.trans (by rfl))
        subst hspot
        have hadd : ∀ i, (⟨b, off, none⟩ : Addr).add i = ⟨b, off + i, none⟩ := by intro i; unfold Addr.add; split <;> simp_all
        have hadd2 : ∀ i j, (⟨b, off + i, none⟩ : Addr).add j = ⟨b, off + i + j, none⟩ := by intro i j; unfold Addr.add; split <;> simp_all
        refine ⟨some b, ⟨flat4_len _, _, cap, by rw [hll], by rw [hll]; exact hl, hm, .inr ⟨b, off, rfl, rfl, fun i hi => ?_⟩⟩, ?_⟩
        · rw [hll] at hi
          have hi4 : i / 4 < len := by omega
          obtain ⟨_, _, hat⟩ := World.cells?_some (hf (i / 4) hi4).1
          have h5 := hat (i % 4) (by omega)
          rw [hadd, hadd2] at h5
          have h6 := flat4_at ((List.range len).map f) (i / 4) (i % 4) (by rw [hll]; exact hi4) (by omega)
          have e : i / 4 * 4 + i % 4 = i := by omega
          rw [e] at h6
          rw [Nat.add_assoc, e] at h5
          rw [h5, h6]
          simp
        · rintro b' ⟨⟩
          have := World.block_lt_of_cell? _ _ (hc.trans (by rfl : (encTm (f 0))[0]? = some (.int .i64 (f 0).kind)))
          simpa [Addr.add] using this
    · rw [RdTms_iff]
      intro x hx
      obtain ⟨i, hir, rfl⟩ := List.mem_map.1 hx
      exact (hf i (List.mem_range.1 hir)).2

set_option maxRecDepth 100000 in
theorem open_termN : ∀ (N n : Nat), n ≤ N → ∀ (cs : List Value) (y : DataW H × List MemPlace), DataW.trod enc Tryd.prog W 0 (fun _ => true) true n 31 cs = some y → (∀ z ∈ y.1.weights Tryd.prog 31, z ≤ reachBytes) → ∃ t : Tm, cs = encTm t ∧ RdTm W.heap.size W t
  | N, 0, _, cs, y, h, _ => by simp [DataW.trod] at h
  | 0, n + 1, hN, _, _, _, _ => by omega
  | N + 1, n + 1, hN, cs, y, h, hw => by
    obtain ⟨xs, m, hm, hx, hcl, hxl, hf⟩ := DataW.trod_struct Tryd.underlying31 h
    obtain rfl : n = m := by omega
    rw [cellsTerm] at hcl
    subst hx
    match cs, hcl with
    | [c0, c1, c2, c3], _ =>
      match xs, hxl with
      | [x0, x1, x2, x3], _ =>
        have f0 : DataW.trod enc Tryd.prog W 0 (fun _ => true) true n 3 (([c0, c1, c2, c3].drop 0).take (Tryd.prog.cellsOf 3)) = [x0, x1, x2, x3][0]? := hf 0 _ rfl
        rw [cellsInt] at f0
        have f1 : DataW.trod enc Tryd.prog W 0 (fun _ => true) true n 2 (([c0, c1, c2, c3].drop 1).take (Tryd.prog.cellsOf 2)) = [x0, x1, x2, x3][1]? := hf 1 _ rfl
        rw [cellsInt64] at f1
        have f2 : DataW.trod enc Tryd.prog W 0 (fun _ => true) true n 9 (([c0, c1, c2, c3].drop 2).take (Tryd.prog.cellsOf 9)) = [x0, x1, x2, x3][2]? := hf 2 _ rfl
        rw [cellsString] at f2
        have f3 : DataW.trod enc Tryd.prog W 0 (fun _ => true) true n 22 (([c0, c1, c2, c3].drop 3).take (Tryd.prog.cellsOf 22)) = [x0, x1, x2, x3][3]? := hf 3 _ rfl
        rw [cellsTerms] at f3
        obtain ⟨k, e0, -, -⟩ := DataW.trod_int Tryd.underlying3 f0
        obtain ⟨i, e1, -, hw1⟩ := DataW.trod_int Tryd.underlying2 f1
        obtain ⟨s, e2, hx2, -⟩ := DataW.trod_string Tryd.underlying9 f2
        simp at e0 e1 e2
        subst e0 e1 e2
        have hws : s.size ≤ 140737488355328 := by
          have := hw s.data.toList.length (by
            simp only [DataW.weights, Tryd.underlying31]
            exact DataW.weights_mem_each (j := 2) (t := 9) (d := x2.1) rfl rfl _ (by rw [hx2]; simp [DataW.weights]))
          simp only [reachBytes] at this
          have e : s.size = s.data.toList.length := by simp
          omega
        simp [Lit.wf, IntKind.min, IntKind.max, IntKind.signed, IntKind.bits] at hw1
        cases n with
        | zero => simp [DataW.trod] at f3
        | succ n =>
          obtain ⟨l, hl, hl2⟩ := open_terms_of (fun cs y => open_termN N n (by omega) cs y) f3 (fun z hz => hw z (by
            simp only [DataW.weights, Tryd.underlying31]
            exact DataW.weights_mem_each (j := 3) (t := 22) (d := x3.1) rfl rfl _ hz))
          exact ⟨.mk k i s c3 l, rfl, hl.tm (by omega) (by omega) hws⟩
theorem open_term {v : Value} {d : DataW H} {ps : List MemPlace} (h : DataW.Trod enc Tryd.prog W 0 (fun _ => true) true 31 v d ps) (hw : ∀ z ∈ d.weights Tryd.prog 31, z ≤ reachBytes) (hv : ∃ cs, v = .agg cs ∧ cs.size = Tryd.prog.cellsOf 31) : ∃ t : Tm, v = aggTm t ∧ RdTm W.heap.size W t := by
  obtain ⟨fuel, hf⟩ := h
  obtain ⟨cs, rfl, -⟩ := hv
  obtain ⟨t, ht, hr⟩ := open_termN fuel fuel (Nat.le_refl _) _ _ hf hw
  refine ⟨t, ?_, hr⟩
  have : cs.toList = encTm t := by simpa [Value.cells] using ht
  unfold aggTm
  congr 1
  apply Array.toList_inj.1
  rw [this]; rfl
theorem open_terms {v : Value} {d : DataW H} {ps : List MemPlace} (h : DataW.Trod enc Tryd.prog W 0 (fun _ => true) true 22 v d ps) (hw : ∀ z ∈ d.weights Tryd.prog 22, z ≤ reachBytes) (hv : ∃ a n c, v = .slice a n c) : ∃ l : List Tm, HasT W.heap.size W v l ∧ (l.length + 1) * 56 ≤ 140737488355328 := by
  obtain ⟨fuel, hf⟩ := h
  obtain ⟨a, n, c, rfl⟩ := hv
  cases fuel with
  | zero => simp [DataW.trod] at hf
  | succ fuel => exact open_terms_of (fun cs y => open_termN fuel fuel (Nat.le_refl _) cs y) (by simpa [Value.cells] using hf) hw
end
end Go.Proofs.YtcegdomfmamonaaDoor
