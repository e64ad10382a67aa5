/-
  The base, more: a row of structs that is sorted (the library's SortFunc, by the shelf's contract), in the words of the base.
-/
import Derived.Test.YtdeghoigpcbmcaaBase2
import Derived.Shelf.SlSortCmp.WholeK
import Derived.Shelf.SlSortCmp.NoneTotal
namespace Go.Emb
open Go.RowKit Go.Shelf Go.Lib Go.Sort Go.Proofs

theorem flat_get {α : Type} {enc : α → List Value} {k : Nat} (hk : ∀ x, (enc x).length = k) (hp : 0 < k) : ∀ (l : List α) (t : Nat), (l.flatMap enc)[t]? = (l[t / k]?).bind fun x => (enc x)[t % k]?
  | [], t => by simp
  | x :: l, t => by
    rw [List.flatMap_cons]
    by_cases h : t < k
    · rw [List.getElem?_append_left (by rw [hk]; exact h), Nat.div_eq_of_lt h, Nat.mod_eq_of_lt h]
      rfl
    · rw [List.getElem?_append_right (by rw [hk]; omega), hk, flat_get hk hp l (t - k)]
      have h1 : t / k = (t - k) / k + 1 := by rw [← Nat.add_div_right _ hp]; congr 1; omega
      have h2 : t % k = (t - k) % k := by rw [← Nat.add_mod_right (t - k) k]; congr 1; omega
      rw [h1, h2, List.getElem?_cons_succ]

theorem flat_len {α : Type} {enc : α → List Value} {k : Nat} (hk : ∀ x, (enc x).length = k) : ∀ l : List α, (l.flatMap enc).length = l.length * k
  | [] => by simp
  | x :: l => by rw [List.flatMap_cons, List.length_append, hk, flat_len hk l, List.length_cons, Nat.succ_mul]; omega

theorem flat_flatK {α : Type} [Inhabited α] {enc : α → List Value} {k : Nat} (hk : ∀ x, (enc x).length = k) (hp : 0 < k) (d : Array α) (t : Nat) (ht : t < d.size * k) : some ((flatK enc k d)[t]!) = (d.toList.flatMap enc)[t]? := by
  rw [get_flatK enc k d t ht, flat_get hk hp]
  have h1 : t / k < d.size := (Nat.div_lt_iff_lt_mul hp).2 ht
  have h2 : t % k < k := Nat.mod_lt _ hp
  rw [List.getElem?_eq_getElem (by simpa using h1), Option.bind_some, List.getElem?_eq_getElem (by rw [hk]; exact h2)]
  simp only [Array.getElem_toList]
  rw [getElem!_pos d (t / k) h1, getElem!_pos _ (t % k) (by rw [hk]; exact h2)]

theorem Row.holdsK {α : Type} [Inhabited α] {enc : α → List Value} {k : Nat} (hk : ∀ x, (enc x).length = k) (hp : 0 < k) {w : World} {E b off cap : Nat} {d : Array α} (h : Row w E k (.slice (some ⟨b, off, none⟩) d.size cap) d.size (d.toList.flatMap enc) (some b)) :
    HoldsK enc k w b off d := by
  obtain ⟨_, h⟩ := h
  rcases h with ⟨h, _⟩ | ⟨b', off', cap', cs, e1, e2, hb, h1, h2, h3, h5⟩
  · cases h
  cases e1; cases e2
  intro j hj
  rw [size_flatK] at hj
  have hc := h5 j hj
  rw [← flat_flatK hk hp d j hj] at hc
  exact ⟨by simp [World.cell?, hb, hc], by simp [World.frozen?, hb]⟩

/-- what the sort leaves, in the base's words -/
theorem Row.sorted {α : Type} [Inhabited α] {enc : α → List Value} {k : Nat} (hk : ∀ x, (enc x).length = k) (hp : 0 < k) {w : World} {E b off cap : Nat} {d d' : Array α} (hs : d'.size = d.size) (h : Row w E k (.slice (some ⟨b, off, none⟩) d.size cap) d.size (d.toList.flatMap enc) (some b)) (n : Nat) (os : Array Obj) :
    Row (sortWorldK enc k w b off n d' os) E k (.slice (some ⟨b, off, none⟩) d.size cap) d.size (d'.toList.flatMap enc) (some b) ∧ Keep [b] w (sortWorldK enc k w b off n d' os) := by
  have hlt := h.lt b rfl
  obtain ⟨hl, h⟩ := h
  rcases h with ⟨h, _⟩ | ⟨b', off', cap', cs, e1, e2, hb, h1, h2, h3, h5⟩
  · cases h
  cases e1; cases e2
  have hk2 : d.size * k ≤ cap * k := Nat.mul_le_mul_right _ h1
  have hheap : (sortWorldK enc k w b off n d' os).heap[b]? = some (.cells (putCells id off (flatK enc k d') cs) E (0, 0)) := by
    unfold sortWorldK
    rw [heap_grow_old _ _ (by simp [putRowK]; exact hlt)]
    simp [putRowK, putRow, mapBlock, Array.getElem?_modify, hb, onCells]
  refine ⟨⟨by rw [flat_len hk]; simp [hs], .inr ⟨b, off, cap, _, rfl, rfl, hheap, h1, h2, by simp [putCells]; exact h3, fun i hi => ?_⟩⟩, ?_⟩
  · rw [← hs] at hi
    rw [← flat_flatK hk hp d' i hi]
    have hi2 : off + i < cs.size := by rw [hs] at hi; omega
    simp only [putCells, Array.getElem?_mapIdx, Array.getElem?_eq_getElem hi2, Option.map_some, size_flatK]
    rw [if_pos ⟨by omega, by omega⟩]
    simp
  · refine ⟨rfl, rfl, rfl, by simp [sortWorldK, putRowK], fun i hi hn => ?_⟩
    unfold sortWorldK
    rw [heap_grow_old _ _ (by simp [putRowK]; exact hi)]
    simp only [List.mem_singleton] at hn
    simp [putRowK, putRow, mapBlock, Array.getElem?_modify, Ne.symm hn]

end Go.Emb
