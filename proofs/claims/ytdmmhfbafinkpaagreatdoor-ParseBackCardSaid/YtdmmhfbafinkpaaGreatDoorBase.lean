import Derived.WalkKit
import Derived.Outline
import Derived.Below
import Derived.Lib.Hide
import Derived.Maps.OwnSet
import Derived.Deep.Draws
import Derived.Deep.AppendSrc
/-
  The base of this seat's proofs: what a call leaves as it was (Keep), slices in memory (Rd, Row), maps in memory (MapA); no program is named here.
-/
namespace Go.Emb
open Go.RowKit

/-- All blocks but those in F are as they were; new ones may lie behind. -/
structure Keep (F : List Nat) (w w' : World) : Prop where
  os : w'.os = w.os
  tape : w'.tape = w.tape
  output : w'.output = w.output
  size : w.heap.size ≤ w'.heap.size
  block : ∀ b, b < w.heap.size → b ∉ F → w'.heap[b]? = w.heap[b]?

theorem Keep.refl (F : List Nat) (w : World) : Keep F w w := ⟨rfl, rfl, rfl, Nat.le_refl _, fun _ _ _ => rfl⟩
theorem Keep.mono {F G : List Nat} {w w' : World} (h : Keep F w w') (hs : ∀ b ∈ F, b < w.heap.size → b ∈ G) : Keep G w w' :=
  ⟨h.os, h.tape, h.output, h.size, fun b hb hn => h.block b hb fun hf => hn (hs b hf hb)⟩
/-- What the second step may write is what the first may write, or new. -/
theorem Keep.trans {F G : List Nat} {a b c : World} (h : Keep F a b) (k : Keep G b c) (hs : ∀ x ∈ G, x ∈ F ∨ a.heap.size ≤ x) : Keep F a c :=
  ⟨k.os.trans h.os, k.tape.trans h.tape, k.output.trans h.output, Nat.le_trans h.size k.size, fun x hx hn =>
    (k.block x (Nat.lt_of_lt_of_le hx h.size) fun hg => by rcases hs x hg with h1 | h1; exact hn h1; omega).trans (h.block x hx hn)⟩
theorem Keep.drew {F : List Nat} {a w : World} (h : Keep F a w) : Keep F a w.drew := ⟨h.os, h.tape, h.output, h.size, h.block⟩
theorem Keep.drewN {F : List Nat} {a w : World} (h : Keep F a w) (n : Nat) : Keep F a (w.drewN n) := ⟨h.os, h.tape, h.output, h.size, h.block⟩
theorem Keep.alloc {F : List Nat} {a w : World} (h : Keep F a w) (o : Obj) : Keep F a (w.alloc o) :=
  ⟨h.os, h.tape, h.output, Nat.le_trans h.size (by simp), fun b hb hn => (Below.heap_alloc w o b (Nat.lt_of_lt_of_le hb h.size)).trans (h.block b hb hn)⟩
theorem Keep.setCell {F : List Nat} {a w : World} (h : Keep F a w) {p : Addr} (hp : p.block ∈ F ∨ a.heap.size ≤ p.block) (u : Value) : Keep F a (w.setCell p u) :=
  ⟨h.os, h.tape, h.output, by simpa [World.setCell] using h.size, fun b hb hn => (Below.heap_setCell w p u b (by
    rintro rfl
    rcases hp with hp | hp
    · exact hn hp
    · omega)).trans (h.block b hb hn)⟩
theorem Keep.set1 (w : World) (p : Addr) (u : Value) : Keep [p.block] w (w.setCell p u) := (Keep.refl _ _).setCell (.inl (by simp)) u
theorem Keep.grown {F : List Nat} {a w w' : World} {row : Option Nat} (h : Keep F a w) (hg : w.grownBy w' row) (hr : ∀ k, row = some k → k ∈ F ∨ a.heap.size ≤ k) : Keep F a w' :=
  ⟨hg.os.trans h.os, hg.tape.trans h.tape, hg.output.trans h.output, Nat.le_trans h.size hg.size, fun b hb hn =>
    (hg.block b (Nat.lt_of_lt_of_le hb h.size) (fun e => by rcases hr b e.symm with h1 | h1; exact hn h1; omega)).trans (h.block b hb hn)⟩
theorem Keep.of_below {F : List Nat} {a w : World} (h : Below a.heap.size a w) : Keep F a w := ⟨h.os, h.tape, h.output, h.size, fun b hb _ => h.block b hb⟩
theorem Keep.below {F : List Nat} {a w : World} {B : Nat} (h : Keep F a w) (hF : ∀ b ∈ F, B ≤ b) (hB : B ≤ a.heap.size) : Below B a w :=
  ⟨h.os, h.tape, h.output, h.size, fun b hb => h.block b (Nat.lt_of_lt_of_le hb hB) fun hf => by have := hF b hf; omega⟩
theorem Keep.cell {F : List Nat} {w w' : World} (h : Keep F w w') {p : Addr} (hp : p.block < w.heap.size) (hn : p.block ∉ F) : w'.cell? p = w.cell? p := World.cell?_of_block (h.block _ hp hn)

/-! ### slices that are read -/
/-- v is a slice of n elements of k cells each; its cells are xs; o: the block in which they lie (none: nothing is read). -/
def Rd (w : World) (k : Nat) (v : Value) (n : Nat) (xs : List Value) (o : Option Nat) : Prop :=
  xs.length = n * k ∧ ∃ a c, v = .slice a n c ∧ n ≤ c ∧ c ≤ maxLen ∧
    ((n = 0 ∧ o = none) ∨ ∃ b off, a = some ⟨b, off, none⟩ ∧ o = some b ∧ ∀ i, i < n * k → w.cell? ⟨b, off + i, none⟩ = xs[i]?)

theorem Rd.keep {F : List Nat} {w w' : World} {k : Nat} {v : Value} {n : Nat} {xs : List Value} {o : Option Nat} (h : Rd w k v n xs o) (hk : Keep F w w') (hn : ∀ b, o = some b → b ∉ F) : Rd w' k v n xs o := by
  obtain ⟨hl, a, c, rfl, h1, h2, h3⟩ := h
  refine ⟨hl, a, c, rfl, h1, h2, ?_⟩
  rcases h3 with h3 | ⟨b, off, rfl, rfl, h3⟩
  · exact .inl h3
  · refine .inr ⟨b, off, rfl, rfl, fun i hi => ?_⟩
    have hi' := h3 i hi
    have hlt : b < w.heap.size := by
      rw [List.getElem?_eq_getElem (by omega)] at hi'
      exact World.block_lt_of_cell? _ _ hi'
    rw [hk.cell (p := ⟨b, off + i, none⟩) hlt (hn b rfl)]
    exact hi'
theorem Rd.keep0 {w w' : World} {k : Nat} {v : Value} {n : Nat} {xs : List Value} {o : Option Nat} (h : Rd w k v n xs o) (hk : Keep [] w w') : Rd w' k v n xs o := h.keep hk (by simp)

/-! ### slices that are owned: the whole block is known -/
def Row (w : World) (E k : Nat) (v : Value) (n : Nat) (xs : List Value) (o : Option Nat) : Prop :=
  xs.length = n * k ∧ ((o = none ∧ v = .slice none 0 0 ∧ n = 0) ∨
  ∃ b off cap cs, o = some b ∧ v = .slice (some ⟨b, off, none⟩) n cap ∧ w.heap[b]? = some (.cells cs E (0, 0)) ∧ n ≤ cap ∧ cap ≤ maxLen ∧ off + cap * k ≤ cs.size ∧
    ∀ i, i < n * k → cs[off + i]? = xs[i]?)

theorem Row.rd {w : World} {E k : Nat} {v : Value} {n : Nat} {xs : List Value} {o : Option Nat} (h : Row w E k v n xs o) : ∃ o', Rd w k v n xs o' ∧ (o' = none ∨ o' = o) := by
  obtain ⟨hl, h⟩ := h
  rcases h with ⟨rfl, rfl, rfl⟩ | ⟨b, off, cap, cs, rfl, rfl, hb, h1, h2, h3, h5⟩
  · exact ⟨none, ⟨hl, none, 0, rfl, Nat.le_refl _, Nat.zero_le _, .inl ⟨rfl, rfl⟩⟩, .inl rfl⟩
  · refine ⟨some b, ⟨hl, _, cap, rfl, h1, h2, .inr ⟨b, off, rfl, rfl, fun i hi => ?_⟩⟩, .inr rfl⟩
    rw [← h5 i hi]
    simp [World.cell?, hb]

theorem Row.lt {w : World} {E k : Nat} {v : Value} {n : Nat} {xs : List Value} {o : Option Nat} (h : Row w E k v n xs o) : ∀ b, o = some b → b < w.heap.size := by
  obtain ⟨hl, h⟩ := h
  rcases h with ⟨rfl, rfl, rfl⟩ | ⟨b, off, cap, cs, rfl, rfl, hb, _⟩
  · intro b h; cases h
  · intro b h; cases h
    exact (Array.getElem?_eq_some_iff.1 hb).1

theorem Row.keep {F : List Nat} {w w' : World} {E k : Nat} {v : Value} {n : Nat} {xs : List Value} {o : Option Nat} (h : Row w E k v n xs o) (hk : Keep F w w') (hn : ∀ b, o = some b → b ∉ F) : Row w' E k v n xs o := by
  have hlt := h.lt
  obtain ⟨hl, h⟩ := h
  refine ⟨hl, ?_⟩
  rcases h with h | ⟨b, off, cap, cs, rfl, rfl, hb, r⟩
  · exact .inl h
  · exact .inr ⟨b, off, cap, cs, rfl, rfl, (hk.block b (hlt b rfl) (hn b rfl)).trans hb, r⟩

theorem Row.nil (w : World) (E k : Nat) : Row w E k (.slice none 0 0) 0 [] none := ⟨by simp, .inl ⟨rfl, rfl, rfl⟩⟩

/-- Where an append's source lies. -/
theorem Rd.src {P : Program} {w : World} {k : Nat} {v : Value} {n : Nat} {xs : List Value} {o : Option Nat} {tx e' : TypeId} (h : Rd w k v n xs o) (hk : P.underlying tx = some (.slice e')) (hn : 0 < n) (h1 : ∀ u ∈ xs, u.oneCell' = true) : Src P k tx v n xs w := by
  obtain ⟨hl, a, c, rfl, _, h2, h3⟩ := h
  rcases h3 with ⟨h3, _⟩ | ⟨b, off, rfl, rfl, h3⟩
  · omega
  · refine Src.ofSlice w hk _ n c xs hl (fun j u hu => ?_) h1
    have hj : j < n * k := by
      rcases Nat.lt_or_ge j xs.length with h | h
      · omega
      · rw [List.getElem?_eq_none h] at hu; cases hu
    have hadd : (⟨b, off, none⟩ : Addr).add j = ⟨b, off + j, none⟩ := by unfold Addr.add; split <;> simp_all
    rw [hadd, h3 j hj, hu]

/-- append: in place or into a new block; what is read of the result is what was there and what came. -/
theorem run_append_row {P : Program} {w : World} {T tx ty E : TypeId} {i : TypeInfo} {z : Value} {k bytes : Nat} (ht : P.underlying T = some (.slice E)) (hi : P.info? E = some i) (hz : i.zero = some z) (hik : i.size = k) (hib : i.bytes = bytes)
    (hzs : z.cells.size = k) {v : Value} {n : Nat} {xs : List Value} {o : Option Nat} (h : Row w E k v n xs o) {x : Value} {m : Nat} {news : List Value} (hs : Src P k tx x m news w) (hpos : 0 < m)
    (h63 : n + m ≤ maxLen) (hbytes : (n + m) * bytes ≤ 140737488355328) :
    ∃ g off cap w', (Builtin.append_ #[T, tx] ty #[v, x]).run P w = .ok (.slice (some ⟨g, off, none⟩) (n + m) cap) w' ∧ Row w' E k (.slice (some ⟨g, off, none⟩) (n + m) cap) (n + m) (xs ++ news) (some g) ∧ Keep o.toList w w' ∧ (o = some g ∨ w.heap.size ≤ g) := by
  subst hik
  subst hib
  have hm := hs.newsLen
  have h1 := hs.one
  obtain ⟨hl, h⟩ := h
  have hlen : (xs ++ news).length = (n + m) * i.size := by rw [List.length_append, hl, hm, Nat.add_mul]
  have grown : ∀ (old : Nat), old < n + m → ∀ o : Option Nat,
      Row (w.drew.alloc (.cells ((xs ++ news).toArray ++ Builtin.zeroCells z.cells (grownCap w (n + m) old E - (n + m))) E)) E i.size
        (.slice (some ⟨w.heap.size, 0, none⟩) (n + m) (grownCap w (n + m) old E)) (n + m) (xs ++ news) (some w.heap.size) ∧
      Keep o.toList w (w.drew.alloc (.cells ((xs ++ news).toArray ++ Builtin.zeroCells z.cells (grownCap w (n + m) old E - (n + m))) E)) := by
    intro old ho o
    have hge := grownCap_ge w (n + m) old E
    have hcm : grownCap w (n + m) old E ≤ maxLen := grownCap_le_maxLen w (n + m) old E h63
    refine ⟨⟨hlen, .inr ⟨w.heap.size, 0, _, _, rfl, rfl, heap_alloc_new w.drew _, hge, hcm, ?_, ?_⟩⟩, (Keep.refl _ _).drew.alloc _⟩
    · simp only [Array.size_append, List.size_toArray, size_zeroCells, hzs, hlen, ← Nat.add_mul, Nat.zero_add]
      exact Nat.mul_le_mul_right _ (by omega)
    · intro j hj
      rw [Nat.zero_add, Array.getElem?_append_left (by simp only [List.size_toArray, hlen]; exact hj)]
      simp
  rcases h with ⟨rfl, rfl, rfl⟩ | ⟨b, off, cap, cs, rfl, rfl, hb, h2, h3, h4, h5⟩
  · have hx : xs = [] := List.eq_nil_of_length_eq_zero (by simpa using hl)
    subst hx
    have hr := run_append_grow_src (P := P) w T tx ty E i z ht hi hz none 0 0 [] (by simp [Builtin.firstCells]) x m news hs (by omega) (by simp only [maxLen] at h63; omega) (growslice_fits (by omega) hbytes)
    have hg := grown 0 (by omega) none
    simp only [List.nil_append] at hr hg ⊢
    exact ⟨_, _, _, _, hr, hg.1, hg.2, .inr (Nat.le_refl _)⟩
  · by_cases hroom : n + m ≤ cap
    · have hfit : off + n * i.size + 0 + news.length ≤ cs.size := by
        have : (n + m) * i.size ≤ cap * i.size := Nat.mul_le_mul_right _ hroom
        rw [Nat.add_mul] at this
        omega
      have hst := run_storeCells_at P b (off + n * i.size) E news 0 cs w hb hfit h1
      simp only [Nat.add_zero] at hst hfit
      have hr : (Builtin.append_ #[T, tx] ty #[.slice (some ⟨b, off, none⟩) n cap, x]).run P w = .ok (.slice (some ⟨b, off, none⟩) (n + m) cap) (w.setRow b (cs.toList.take (off + n * i.size) ++ news ++ cs.toList.drop (off + n * i.size + news.length)).toArray) := by
        rcases hs.kind with ⟨e', hk⟩ | hk <;> simp [Builtin.append_, run_underlying ht, run_underlying hk, sizeOf, typeInfo, hi, hs.len, hroom, hs.cells, Addr.add_lit, hst]
      refine ⟨b, off, cap, _, hr, ⟨hlen, .inr ⟨b, off, cap, _, rfl, rfl, setRow_heap w b cs _ E _ hb, hroom, h3, ?_, ?_⟩⟩, ⟨rfl, rfl, rfl, by simp [World.setRow], fun k _ hk => setRow_other w b k _ (by simpa using hk)⟩, .inl rfl⟩
      · simp only [List.size_toArray, List.length_append, List.length_take, List.length_drop, Array.length_toList]
        omega
      · intro j hj
        rw [Nat.add_mul] at hj
        rw [List.getElem?_toArray, List.append_assoc]
        by_cases hjn : j < n * i.size
        · rw [List.getElem?_append_left (by simp; omega), List.getElem?_append_left (by omega), List.getElem?_take_of_lt (by omega), Array.getElem?_toList]
          exact h5 j hjn
        · have ht : (cs.toList.take (off + n * i.size)).length = off + n * i.size := by simp; omega
          rw [List.getElem?_append_right (by omega), ht, List.getElem?_append_left (by omega), List.getElem?_append_right (by omega)]
          congr 1
          omega
    · have hold : (Builtin.firstCells i.size n (.slice (some ⟨b, off, none⟩) n cap)).run P w.drew = .ok xs.toArray w.drew := by
        refine run_firstCells_some (P := P) w.drew i.size n _ n cap xs hl (fun j u hu => ?_)
        have hj : j < n * i.size := by
          rcases Nat.lt_or_ge j xs.length with h | h
          · omega
          · rw [List.getElem?_eq_none h] at hu; cases hu
        have hadd : (⟨b, off, none⟩ : Addr).add j = ⟨b, off + j, none⟩ := by unfold Addr.add; split <;> simp_all
        rw [hadd, ← hu, ← h5 j hj]
        show w.cell? _ = _
        simp [World.cell?, hb]
      have hr := run_append_grow_src (P := P) w T tx ty E i z ht hi hz (some ⟨b, off, none⟩) n cap xs hold x m news hs (by omega) (by simp only [maxLen] at h63; omega) (growslice_fits (by omega) hbytes)
      have hg := grown cap (by omega) (some b)
      exact ⟨_, _, _, _, hr, hg.1, hg.2, .inr (Nat.le_refl _)⟩

/-! ### maps -/
/-- How keys are laid: of a kind that the map compares at once. -/
structure KeyEnc {α : Type} [DecidableEq α] (P : Program) (K : TypeId) (enc : α → Value) : Prop where
  same : ∃ d, P.underlying K = some d ∧ ∀ x y, Instr.sameNow d (enc x) (enc y) = some (decide (x = y))
  check : ∀ em x w, (Instr.checkKey em 10000 K (enc x)).run P w = .ok () w
  stays : ∀ x w, (Instr.keyThatStays (enc x) (enc x)).run P w = .ok (enc x) w

/-- Block b is a map: these keys, these values, in the order in which they came. -/
def MapA {α : Type} (enc : α → Value) (w : World) (b : Nat) (ps : List (α × Value)) : Prop :=
  ∃ es clock, w.heap[b]? = some (.map es clock) ∧ (∀ x ∈ es.toList, x.born < clock) ∧ (es.toList.map (·.born)).Nodup ∧
    es.toList.map (fun e => (e.key, e.val)) = ps.map (fun p => (enc p.1, p.2)) ∧ (ps.map (·.1)).Nodup

theorem MapA.lt {α : Type} {enc : α → Value} {w : World} {b : Nat} {ps : List (α × Value)} (h : MapA enc w b ps) : b < w.heap.size := by
  obtain ⟨es, clock, hb, _⟩ := h
  exact (Array.getElem?_eq_some_iff.1 hb).1

theorem MapA.keep {α : Type} {enc : α → Value} {F : List Nat} {w w' : World} {b : Nat} {ps : List (α × Value)} (h : MapA enc w b ps) (hk : Keep F w w') (hn : b ∉ F) : MapA enc w' b ps := by
  have hlt := h.lt
  obtain ⟨es, clock, hb, r⟩ := h
  exact ⟨es, clock, (hk.block b hlt hn).trans hb, r⟩

theorem MapA.made {α : Type} (enc : α → Value) (w : World) : MapA enc (w.alloc (.map #[] 0)) w.heap.size [] :=
  ⟨#[], 0, (MapKept.heap_alloc w _).1, by simp, by simp, by simp, by simp⟩

section
variable {α β : Type} [DecidableEq α]
def mfind (ps : List (α × β)) (x : α) : Option β := (ps.find? fun p => decide (p.1 = x)).map (·.2)
def mput (ps : List (α × β)) (x : α) (v : β) : List (α × β) :=
  if ps.any (fun p => decide (p.1 = x)) then ps.map (fun p => if p.1 = x then (p.1, v) else p) else ps ++ [(x, v)]
def mdel (ps : List (α × β)) (x : α) : List (α × β) := ps.filter fun p => decide (p.1 ≠ x)

theorem mfind_none {ps : List (α × β)} {x : α} : mfind ps x = none ↔ ∀ p ∈ ps, p.1 ≠ x := by
  simp [mfind, List.find?_eq_none]
theorem mfind_put_self (ps : List (α × β)) (x : α) (v : β) : mfind (mput ps x v) x = some v := by
  unfold mput mfind
  by_cases h : ps.any (fun p => decide (p.1 = x)) = true
  · rw [if_pos h]
    induction ps with
    | nil => simp at h
    | cons p r ih =>
      by_cases hp : p.1 = x
      · simp [hp]
      · simp only [List.any_cons, hp, decide_false, Bool.false_or] at h
        have := ih h
        simpa [List.find?_cons, hp] using this
  · rw [if_neg h]
    have h' : ∀ p ∈ ps, ¬ (decide (p.1 = x) = true) := fun p hp he => h (List.any_eq_true.2 ⟨p, hp, he⟩)
    rw [List.find?_append, List.find?_eq_none.2 h']
    simp
theorem mfind_put_other (ps : List (α × β)) {x y : α} (v : β) (hne : y ≠ x) : mfind (mput ps x v) y = mfind ps y := by
  unfold mput mfind
  by_cases h : ps.any (fun p => decide (p.1 = x)) = true
  · rw [if_pos h]
    clear h
    induction ps with
    | nil => rfl
    | cons p r ih =>
      by_cases hp : p.1 = x
      · have hpy : ¬ p.1 = y := fun e => hne (e.symm.trans hp)
        have hxy : ¬ x = y := fun e => hne e.symm
        simp only [List.map_cons, hp, if_true, List.find?_cons, hxy, decide_false]
        exact ih
      · by_cases hpy : p.1 = y
        · simp [hpy, hne]
        · simp only [List.map_cons, hp, if_false, List.find?_cons, hpy, decide_false]
          exact ih
  · rw [if_neg h, List.find?_append]
    have : ¬ x = y := fun e => hne e.symm
    simp [this]
theorem mfind_del_self (ps : List (α × β)) (x : α) : mfind (mdel ps x) x = none := by
  rw [mfind_none]
  intro p hp
  simpa using (List.mem_filter.1 hp).2
theorem mfind_del_other (ps : List (α × β)) {x y : α} (hne : y ≠ x) : mfind (mdel ps x) y = mfind ps y := by
  unfold mdel mfind
  induction ps with
  | nil => rfl
  | cons p r ih =>
    by_cases hp : p.1 = x
    · have hpy : ¬ p.1 = y := fun e => hne (e.symm.trans hp)
      rw [List.filter_cons_of_neg (by simp [hp]), List.find?_cons_of_neg (by simp [hpy])]
      exact ih
    · rw [List.filter_cons_of_pos (by simp [hp])]
      by_cases hpy : p.1 = y
      · simp [hpy]
      · rw [List.find?_cons_of_neg (by simp [hpy]), List.find?_cons_of_neg (by simp [hpy])]
        exact ih
theorem mput_keys (ps : List (α × β)) (x : α) (v : β) : (mput ps x v).map (·.1) = if ps.any (fun p => decide (p.1 = x)) then ps.map (·.1) else ps.map (·.1) ++ [x] := by
  unfold mput
  split
  · rw [List.map_map]
    apply List.map_congr_left
    intro p _
    simp only [Function.comp]
    split <;> rfl
  · simp

theorem mfind_map {γ : Type} (f : β → γ) (T : List (α × β)) (x : α) : mfind (T.map fun p => (p.1, f p.2)) x = (mfind T x).map f := by
  unfold mfind
  rw [List.find?_map]
  cases h : T.find? ((fun p : α × γ => decide (p.1 = x)) ∘ fun p => (p.1, f p.2)) with
  | none => rw [show ((fun p : α × γ => decide (p.1 = x)) ∘ fun p : α × β => (p.1, f p.2)) = fun p => decide (p.1 = x) from rfl] at h; simp [h]
  | some p => rw [show ((fun p : α × γ => decide (p.1 = x)) ∘ fun p : α × β => (p.1, f p.2)) = fun p => decide (p.1 = x) from rfl] at h; simp [h]
theorem mput_map {γ : Type} (f : β → γ) (T : List (α × β)) (x : α) (v : β) : mput (T.map fun p => (p.1, f p.2)) x (f v) = (mput T x v).map fun p => (p.1, f p.2) := by
  unfold mput
  rw [List.any_map, show ((fun p : α × γ => decide (p.1 = x)) ∘ fun p : α × β => (p.1, f p.2)) = fun p => decide (p.1 = x) from rfl]
  split
  · rw [List.map_map, List.map_map]
    apply List.map_congr_left
    intro p _
    simp only [Function.comp]
    split <;> rfl
  · simp
theorem mdel_map {γ : Type} (f : β → γ) (T : List (α × β)) (x : α) : mdel (T.map fun p => (p.1, f p.2)) x = (mdel T x).map fun p => (p.1, f p.2) := by
  unfold mdel
  rw [List.filter_map]
  rfl

theorem findNow_enc {d : TypeDesc} {enc : α → Value} (hs : ∀ x y, Instr.sameNow d (enc x) (enc y) = some (decide (x = y))) (x : α) : ∀ (ps : List (α × Value)) (es : List MapEntry) (i : Nat),
    es.map (fun e => (e.key, e.val)) = ps.map (fun p => (enc p.1, p.2)) →
    Instr.findNow d (enc x) es i = some ((ps.findIdx? fun p => decide (p.1 = x)).bind fun j => (ps[j]?).map fun p => (i + j, p.2))
  | [], [], i, _ => rfl
  | [], _ :: _, _, h => by simp at h
  | _ :: _, [], _, h => by simp at h
  | p :: ps, e :: es, i, h => by
    simp only [List.map_cons, List.cons.injEq, Prod.mk.injEq] at h
    obtain ⟨⟨hk, hv⟩, h⟩ := h
    unfold Instr.findNow
    rw [hk, hs x p.1]
    by_cases hx : x = p.1
    · subst hx
      simp [List.findIdx?_cons, hv]
    · have hx' : ¬ p.1 = x := fun e => hx e.symm
      simp only [hx, decide_false, List.findIdx?_cons, hx']
      rw [findNow_enc hs x ps es (i + 1) h]
      cases List.findIdx? (fun p => decide (p.1 = x)) ps with
      | none => rfl
      | some j => simp [Nat.add_assoc, Nat.add_comm 1 j]

theorem mfind_idx (ps : List (α × Value)) (x : α) : mfind ps x = (ps.findIdx? fun p => decide (p.1 = x)).bind fun j => (ps[j]?).map (·.2) := by
  unfold mfind
  induction ps with
  | nil => rfl
  | cons p r ih =>
    by_cases hp : p.1 = x
    · simp [List.findIdx?_cons, hp]
    · simp only [List.find?_cons, hp, decide_false, List.findIdx?_cons]
      rw [ih]
      cases List.findIdx? (fun p => decide (p.1 = x)) r <;> simp

variable {P : Program} {K E T : TypeId} {enc : α → Value} {w : World} {b : Nat} {ps : List (α × Value)}

theorem MapA.look (h : MapA enc w b ps) (L : KeyEnc P K enc) (ht : P.underlying T = some (.map K E)) {z : Value} (hz : (zeroValue E).run P w = .ok z w) (x : α) (c : Bool) :
    (Instr.lookup T (.map (some b)) (enc x) c).run P w = .ok (if c then .tuple #[(mfind ps x).getD z, .bool (mfind ps x).isSome] else (mfind ps x).getD z) w := by
  obtain ⟨es, clock, hb, hlt, hnd, hps, hkn⟩ := h
  obtain ⟨d, hd, hs⟩ := L.same
  have hf := findNow_enc hs x ps es.toList 0 hps
  have hrun := MapKept.run_findKey (P := P) (w := w) hd hf
  rw [mfind_idx]
  cases hj : List.findIdx? (fun p => decide (p.1 = x)) ps with
  | none =>
    rw [hj] at hrun
    simp [Instr.lookup, run_underlying ht, MapKept.run_getObj_map hb, L.check _ x w, hrun, hz, Result.andThen]
  | some j =>
    rw [hj] at hrun
    have hjl : j < ps.length := by
      have := List.findIdx?_eq_some_iff_getElem.1 hj
      exact this.1
    simp [hjl] at hrun
    simp [Instr.lookup, run_underlying ht, MapKept.run_getObj_map hb, L.check _ x w, hrun, Result.andThen, hjl]

theorem setBlock_keep {w : World} {b : Nat} {es : Array MapEntry} {clock : Nat} (hb : w.heap[b]? = some (.map es clock)) (o : Obj) :
    Keep [b] w { w with heap := w.heap.setIfInBounds b o } ∧ ({ w with heap := w.heap.setIfInBounds b o } : World).heap[b]? = some o :=
  ⟨⟨rfl, rfl, rfl, by simp, fun i _ hi => (MapKept.heap_set hb).2 i (by simpa using hi)⟩, (MapKept.heap_set hb).1⟩

theorem idx_any {x : α} (h : ps.findIdx? (fun p => decide (p.1 = x)) = none) : ps.any (fun p => decide (p.1 = x)) = false := by
  rw [List.findIdx?_eq_none_iff] at h
  rw [List.any_eq_false]
  intro p hp
  simpa using h p hp

theorem MapA.update (h : MapA enc w b ps) (L : KeyEnc P K enc) (ht : P.underlying T = some (.map K E)) (x : α) (v : Value) :
    ∃ w', (Instr.mapUpdate T (.map (some b)) (enc x) v).run P w = .ok () w' ∧ MapA enc w' b (mput ps x v) ∧ Keep [b] w w' := by
  obtain ⟨es, clock, hb, hlt, hnd, hps, hkn⟩ := h
  obtain ⟨d, hd, hs⟩ := L.same
  have hf := findNow_enc hs x ps es.toList 0 hps
  have hrun := MapKept.run_findKey (P := P) (w := w) hd hf
  have hlen : es.size = ps.length := by have := congrArg List.length hps; simpa using this
  cases hj : List.findIdx? (fun p => decide (p.1 = x)) ps with
  | none =>
    rw [hj] at hrun
    have hany := idx_any hj
    obtain ⟨k1, k2⟩ := setBlock_keep hb (.map (es.push { key := enc x, val := v, born := clock }) (clock + 1))
    refine ⟨_, ?_, ⟨_, _, k2, ?_, ?_, ?_, ?_⟩, k1⟩
    · simp [Instr.mapUpdate, run_underlying ht, MapKept.run_getObj_map hb, L.check _ x w, hrun, Result.andThen, MapKept.run_setObj_map _ hb]
    · intro y hy
      simp only [Array.toList_push, List.mem_append, List.mem_singleton] at hy
      rcases hy with hy | rfl
      · have := hlt y hy; omega
      · simp
    · simp only [Array.toList_push, List.map_append, List.map_cons, List.map_nil]
      rw [List.nodup_append]
      refine ⟨hnd, by simp, ?_⟩
      intro a ha c hc e
      simp only [List.mem_singleton] at hc
      obtain ⟨y, hy, rfl⟩ := List.mem_map.1 ha
      have := hlt y hy
      omega
    · unfold mput
      rw [hany]
      simp [hps]
    · rw [mput_keys, hany]
      simp only [Bool.false_eq_true, if_false]
      rw [List.nodup_append]
      refine ⟨hkn, by simp, ?_⟩
      intro a ha c hc e
      simp only [List.mem_singleton] at hc
      obtain ⟨y, hy, rfl⟩ := List.mem_map.1 ha
      rw [List.any_eq_false] at hany
      exact hany y hy (by simp [e, hc])
  | some j =>
    have hjl := List.findIdx?_eq_some_iff_getElem.1 hj
    obtain ⟨hjlt, hjx, hjf⟩ := hjl
    have hjx' : ps[j].1 = x := by simpa using hjx
    rw [hj] at hrun
    simp only [Option.bind_some, List.getElem?_eq_getElem hjlt, Option.map_some, Nat.zero_add] at hrun
    have hany : ps.any (fun p => decide (p.1 = x)) = true := List.any_eq_true.2 ⟨ps[j], List.getElem_mem hjlt, by simpa using hjx⟩
    have hkey : ((es[j]?).map (·.key)).getD (enc x) = enc x := by
      have h1 := congrArg (fun l => l[j]?) hps
      simp only [List.getElem?_map, List.getElem?_eq_getElem hjlt, Option.map_some] at h1
      have hje : j < es.size := by omega
      rw [Array.getElem?_toList, Array.getElem?_eq_getElem hje] at h1
      simp only [Option.map_some, Option.some.injEq, Prod.mk.injEq] at h1
      rw [Array.getElem?_eq_getElem hje]
      simp [h1.1, hjx']
    obtain ⟨k1, k2⟩ := setBlock_keep hb (.map (es.modify j fun e => { e with key := enc x, val := v }) clock)
    have hml : ∀ {β : Type} (f : MapEntry → β), ((es.modify j fun e => { e with key := enc x, val := v }).toList.map f) = es.toList.mapIdx fun i e => if i = j then f { e with key := enc x, val := v } else f e := by
      intro β f
      apply List.ext_getElem?
      intro i
      simp only [List.getElem?_map, Array.getElem?_toList, Array.getElem?_modify, List.getElem?_mapIdx]
      by_cases hij : j = i
      · subst hij
        simp only [if_true]
        cases es[j]? <;> simp
      · have hij' : ¬ i = j := fun e => hij e.symm
        simp only [hij, if_false, hij']
    have hborn : (es.modify j fun e => { e with key := enc x, val := v }).toList.map (·.born) = es.toList.map (·.born) := by
      rw [hml]
      apply List.ext_getElem?
      intro i
      simp only [List.getElem?_mapIdx, List.getElem?_map]
      cases es.toList[i]? with
      | none => rfl
      | some e => simp
    refine ⟨_, ?_, ⟨_, _, k2, ?_, ?_, ?_, ?_⟩, k1⟩
    · simp [Instr.mapUpdate, run_underlying ht, MapKept.run_getObj_map hb, L.check _ x w, hrun, Result.andThen, MapKept.run_setObj_map _ hb, hkey, L.stays x w]
    · intro y hy
      have : y.born ∈ es.toList.map (·.born) := by rw [← hborn]; exact List.mem_map.2 ⟨y, hy, rfl⟩
      obtain ⟨z, hz, hzy⟩ := List.mem_map.1 this
      rw [← hzy]
      exact hlt z hz
    · rw [hborn]; exact hnd
    · rw [hml]
      unfold mput
      rw [if_pos hany]
      apply List.ext_getElem?
      intro i
      have h1 := congrArg (fun l => l[i]?) hps
      simp only [List.getElem?_map] at h1
      simp only [List.getElem?_mapIdx, List.getElem?_map]
      cases hei : es.toList[i]? with
      | none =>
        rw [hei] at h1
        simp only [Option.map_none] at h1 ⊢
        cases hpi : ps[i]? with
        | none => simp
        | some p => rw [hpi] at h1; simp at h1
      | some e =>
        rw [hei] at h1
        cases hpi : ps[i]? with
        | none => rw [hpi] at h1; simp at h1
        | some p =>
          rw [hpi] at h1
          simp only [Option.map_some, Option.some.injEq, Prod.mk.injEq] at h1 ⊢
          have hil : i < ps.length := by
            rcases Nat.lt_or_ge i ps.length with h | h
            · exact h
            · rw [List.getElem?_eq_none h] at hpi; cases hpi
          rw [List.getElem?_eq_getElem hil] at hpi
          cases hpi
          by_cases hij : i = j
          · subst hij
            rw [if_pos rfl, if_pos hjx', hjx']
          · rw [if_neg hij]
            have hne : ¬ ps[i].1 = x := by
              intro e
              have hpw := List.pairwise_iff_getElem.1 (List.pairwise_map.1 hkn)
              rcases Nat.lt_or_ge i j with hlt' | hge
              · exact hpw i j hil hjlt hlt' (e.trans hjx'.symm)
              · exact hpw j i hjlt hil (by omega) (hjx'.trans e.symm)
            rw [if_neg hne]
            simp [h1.1, h1.2]
    · rw [mput_keys, if_pos hany]; exact hkn

theorem mdel_none {x : α} (h : ps.findIdx? (fun p => decide (p.1 = x)) = none) : mdel ps x = ps := by
  rw [List.findIdx?_eq_none_iff] at h
  unfold mdel
  rw [List.filter_eq_self]
  intro p hp
  simpa using h p hp

theorem MapA.delete (h : MapA enc w b ps) (L : KeyEnc P K enc) (ht : P.underlying T = some (.map K E)) (x : α) (ty : TypeId) :
    ∃ w', (Builtin.delete_ #[T, K] ty #[.map (some b), enc x]).run P w = .ok (.tuple #[]) w' ∧ MapA enc w' b (mdel ps x) ∧ Keep [b] w w' := by
  obtain ⟨es, clock, hb, hlt, hnd, hps, hkn⟩ := h
  obtain ⟨d, hd, hs⟩ := L.same
  have hf := findNow_enc hs x ps es.toList 0 hps
  have hrun := MapKept.run_findKey (P := P) (w := w) hd hf
  have hlen : es.size = ps.length := by have := congrArg List.length hps; simpa using this
  cases hj : List.findIdx? (fun p => decide (p.1 = x)) ps with
  | none =>
    rw [hj] at hrun
    obtain ⟨k1, k2⟩ := setBlock_keep hb (.map es clock)
    refine ⟨_, ?_, ⟨_, _, k2, hlt, hnd, ?_, ?_⟩, k1⟩
    · simp [Builtin.delete_, run_underlying ht, MapKept.run_getObj_map hb, L.check _ x w, hrun, Result.andThen, MapKept.run_setObj_map _ hb]
    · rw [mdel_none hj]; exact hps
    · rw [mdel_none hj]; exact hkn
  | some j =>
    have hjl := List.findIdx?_eq_some_iff_getElem.1 hj
    obtain ⟨hjlt, hjx, hjf⟩ := hjl
    have hjx' : ps[j].1 = x := by simpa using hjx
    rw [hj] at hrun
    simp only [Option.bind_some, List.getElem?_eq_getElem hjlt, Option.map_some, Nat.zero_add] at hrun
    have hje : j < es.size := by omega
    have hdel : mdel ps x = ps.eraseIdx j := by
      unfold mdel
      have hpw := List.pairwise_iff_getElem.1 (List.pairwise_map.1 hkn)
      rw [List.eraseIdx_eq_take_drop_succ]
      conv => lhs; rw [← List.take_append_drop j ps, List.drop_eq_getElem_cons hjlt]
      rw [List.filter_append, List.filter_cons_of_neg (by simp [hjx'])]
      congr 1
      · rw [List.filter_eq_self]
        intro p hp
        obtain ⟨i, hi, rfl⟩ := List.getElem_of_mem hp
        simp only [List.length_take] at hi
        have := hpw i j (by omega) hjlt (by omega)
        simpa [hjx'] using this
      · rw [List.filter_eq_self]
        intro p hp
        obtain ⟨i, hi, rfl⟩ := List.getElem_of_mem hp
        simp only [List.length_drop] at hi
        have := hpw j (j + 1 + i) hjlt (by omega) (by omega)
        rw [hjx'] at this
        have h' : ¬ ((ps.drop (j + 1))[i]'(by simpa using hi)).1 = x := fun e => this (by rw [← e]; simp)
        simpa using h'
    have hes : (es.eraseIdxIfInBounds j).toList = es.toList.eraseIdx j := by
      rw [Array.eraseIdxIfInBounds, dif_pos hje]
      simp
    obtain ⟨k1, k2⟩ := setBlock_keep hb (.map (es.eraseIdxIfInBounds j) clock)
    refine ⟨_, ?_, ⟨_, _, k2, ?_, ?_, ?_, ?_⟩, k1⟩
    · simp [Builtin.delete_, run_underlying ht, MapKept.run_getObj_map hb, L.check _ x w, hrun, Result.andThen, MapKept.run_setObj_map _ hb]
    · intro y hy
      rw [hes] at hy
      exact hlt y (List.mem_of_mem_eraseIdx hy)
    · rw [hes, ChangeMaps.map_eraseIdx]
      exact hnd.sublist (List.eraseIdx_sublist _ _)
    · rw [hes, hdel, ChangeMaps.map_eraseIdx, ChangeMaps.map_eraseIdx, hps]
    · rw [hdel, ChangeMaps.map_eraseIdx]
      exact hkn.sublist (List.eraseIdx_sublist _ _)
end

/-! ### ranging over a map that is not written meanwhile -/
/-- The iterator in block r over the map in block b: vis has come. -/
def MapIt {α : Type} (enc : α → Value) (w : World) (b r : Nat) (ps vis : List (α × Value)) : Prop :=
  ∃ (es : Array MapEntry) (clock : Nat) (seen : Array Nat) (zs : List (MapEntry × (α × Value))), w.heap[b]? = some (.map es clock) ∧ (∀ x ∈ es.toList, x.born < clock) ∧ (es.toList.map (·.born)).Nodup ∧
    es.toList.map (fun e => (e.key, e.val)) = ps.map (fun p => (enc p.1, p.2)) ∧ (ps.map (·.1)).Nodup ∧ w.heap[r]? = some (.mapIter (some b) clock seen clock) ∧
    (∀ z ∈ zs, z ∈ es.toList.zip ps) ∧ (zs.map (·.1.born)).Nodup ∧ seen.toList = zs.map (·.1.born) ∧ vis = zs.map (·.2)

theorem MapIt.map {α : Type} {enc : α → Value} {w : World} {b r : Nat} {ps vis : List (α × Value)} (h : MapIt enc w b r ps vis) : MapA enc w b ps := by
  obtain ⟨es, clock, seen, zs, h1, h2, h3, h4, h5, _⟩ := h
  exact ⟨es, clock, h1, h2, h3, h4, h5⟩

theorem MapIt.keep {α : Type} {enc : α → Value} {F : List Nat} {w w' : World} {b r : Nat} {ps vis : List (α × Value)} (h : MapIt enc w b r ps vis) (hk : Keep F w w') (hb : b ∉ F) (hr : r ∉ F) : MapIt enc w' b r ps vis := by
  obtain ⟨es, clock, seen, zs, h1, h2, h3, h4, h5, h6, h7⟩ := h
  exact ⟨es, clock, seen, zs, (hk.block b (Array.getElem?_eq_some_iff.1 h1).1 hb).trans h1, h2, h3, h4, h5, (hk.block r (Array.getElem?_eq_some_iff.1 h6).1 hr).trans h6, h7⟩

theorem MapA.range {α : Type} {enc : α → Value} {P : Program} {w : World} {b : Nat} {ps : List (α × Value)} {T K E : TypeId} (h : MapA enc w b ps) (ht : P.underlying T = some (.map K E)) :
    ∃ w', (Instr.range T (.map (some b))).run P w = .ok (.pointer (some ⟨w.heap.size, 0, none⟩)) w' ∧ MapIt enc w' b w.heap.size ps [] ∧ Keep [] w w' ∧ w'.heap.size = w.heap.size + 1 := by
  have hlt := h.lt
  obtain ⟨es, clock, h1, h2, h3, h4, h5⟩ := h
  refine ⟨w.alloc (.mapIter (some b) clock #[] clock), ?_, ⟨es, clock, #[], [], ?_, h2, h3, h4, h5, ?_, by simp, by simp, by simp, rfl⟩, (Keep.refl _ _).alloc _, by simp⟩
  · simp [Instr.range, run_underlying ht, MapKept.run_getObj_map h1, Result.andThen, newObj, Sem.run]
  · rw [Below.heap_alloc w _ b hlt]; exact h1
  · exact heap_alloc_new w _

theorem zip_keys {α : Type} {enc : α → Value} : ∀ {es : List MapEntry} {ps : List (α × Value)}, es.map (fun e => (e.key, e.val)) = ps.map (fun p => (enc p.1, p.2)) → ∀ z ∈ es.zip ps, z.1.key = enc z.2.1 ∧ z.1.val = z.2.2
  | [], _, _ => by simp
  | _ :: _, [], h => by simp at h
  | e :: es, p :: ps, h => by
    simp only [List.map_cons, List.cons.injEq, Prod.mk.injEq] at h
    intro z hz
    rcases List.mem_cons.1 hz with rfl | hz
    · exact h.1
    · exact zip_keys h.2 z hz

theorem MapIt.next {α : Type} {enc : α → Value} {P : Program} {w : World} {b r : Nat} {ps vis : List (α × Value)} (h : MapIt enc w b r ps vis) (hbr : b ≠ r) (ty : TypeId) :
    ((Instr.next (.pointer (some ⟨r, 0, none⟩)) false ty).run P w = .ok (.tuple #[.bool false]) w ∧ vis.Perm ps) ∨
    ∃ p w', (Instr.next (.pointer (some ⟨r, 0, none⟩)) false ty).run P w = .ok (.tuple #[.bool true, enc p.1, p.2]) w' ∧ (Instr.entry (.pointer (some ⟨r, 0, none⟩))).run P w' = .ok (.tuple #[enc p.1, p.2]) w' ∧
      p ∈ ps ∧ p.1 ∉ vis.map (·.1) ∧ MapIt enc w' b r ps (vis ++ [p]) ∧ Keep [r] w w' ∧ w'.heap.size = w.heap.size := by
  obtain ⟨es, clock, seen, zs, h1, h2, h3, h4, h5, h6, h7, h8, h9, rfl⟩ := h
  have hlen : es.toList.length = ps.length := by have := congrArg List.length h4; simpa using this
  have hborn : ((es.toList.zip ps).map (·.1.born)) = es.toList.map (·.born) := by
    rw [show (fun z : MapEntry × (α × Value) => z.1.born) = (fun e : MapEntry => e.born) ∘ Prod.fst from rfl, ← List.map_map, List.map_fst_zip (by omega)]
  have hinj : ∀ z ∈ es.toList.zip ps, ∀ z' ∈ es.toList.zip ps, z.1.born = z'.1.born → z = z' := by
    intro z hz z' hz' e
    obtain ⟨i, hi, rfl⟩ := List.getElem_of_mem hz
    obtain ⟨j, hj, rfl⟩ := List.getElem_of_mem hz'
    have hpw := List.pairwise_iff_getElem.1 (List.pairwise_map.1 (hborn ▸ h3))
    rcases Nat.lt_trichotomy i j with h | h | h
    · exact absurd e (hpw i j hi hj h)
    · subst h; rfl
    · exact absurd e.symm (hpw j i hj hi h)
  have hgo : (!seen.isEmpty && !es.isEmpty && es.all (fun x => decide (x.born ≥ clock))) = false := by
    by_cases he : es.isEmpty = true
    · simp [he]
    · have : es.all (fun x => decide (x.born ≥ clock)) = false := by
        rw [Array.isEmpty_iff_size_eq_zero] at he
        rw [Bool.eq_false_iff]
        intro hall
        rw [Array.all_eq_true] at hall
        have h0 := hall 0 (by omega)
        have h0' := h2 es[0] (by simp)
        simp at h0
        omega
      simp [this]
  generalize hL : (es.filter fun e => !seen.contains e.born) = left at *
  have hold : left.filter (fun e => decide (e.born < clock)) = left := by
    rw [Array.filter_eq_self]
    intro e he
    rw [← hL] at he
    have := h2 e (by simpa using (Array.mem_filter.1 he).1)
    simpa using this
  have hnew : left.filter (fun e => decide (e.born ≥ clock)) = #[] := by
    rw [Array.filter_eq_empty_iff]
    intro e he
    rw [← hL] at he
    have := h2 e (by simpa using (Array.mem_filter.1 he).1)
    simp; omega
  have hgi : (getObj r).run P w = .ok (.mapIter (some b) clock seen clock) w := by simp [getObj, Sem.run, h6]
  by_cases hem : left = #[]
  · left
    refine ⟨?_, ?_⟩
    · subst hem
      have hch : (choose (.mapNext (#[none] : Array (Option MapEntry)).size)).run P w = .ok 0 w := by simp [choose, Sem.run, Question.forced]
      have hcand : ((if (#[] : Array MapEntry).isEmpty = true then #[none] else #[]) ++ ((#[] : Array MapEntry) ++ #[]).map some : Array (Option MapEntry)) = #[none] := by simp
      unfold Instr.next
      simp only [Sem.run_bind, hgi, Result.andThen_ok, MapKept.run_getObj_map h1, hgo, Bool.false_eq_true, if_false, hL, hold, hnew, hcand, hch]
      simp
    · have hall : ∀ z ∈ es.toList.zip ps, z ∈ zs := by
        intro z hz
        have hze : z.1 ∈ es.toList := (List.of_mem_zip hz).1
        have hs : seen.contains z.1.born = true := by
          by_cases hc : seen.contains z.1.born = true
          · exact hc
          · have : z.1 ∈ left := by rw [← hL]; exact Array.mem_filter.2 ⟨by simpa using hze, by simpa using hc⟩
            rw [hem] at this
            simp at this
        have : z.1.born ∈ zs.map (·.1.born) := by rw [← h9]; simpa using hs
        obtain ⟨z', hz', e⟩ := List.mem_map.1 this
        rw [← hinj z' (h7 z' hz') z hz e]
        exact hz'
      have hp : zs.Perm (es.toList.zip ps) := (List.perm_ext_iff_of_nodup (List.Pairwise.imp (fun h e => h (by rw [e])) (List.pairwise_map.1 h8)) (List.Pairwise.imp (fun h e => h (by rw [e])) (List.pairwise_map.1 (hborn ▸ h3)))).2
        fun z => ⟨h7 z, hall z⟩
      have := hp.map (·.2)
      rwa [List.map_snd_zip (by omega)] at this
  · right
    have hpos : 0 < left.size := by
      rcases Nat.eq_zero_or_pos left.size with h | h
      · exact absurd (Array.eq_empty_of_size_eq_zero h) hem
      · exact h
    have hcand : ((if left.isEmpty then #[none] else #[]) ++ (left ++ #[]).map some : Array (Option MapEntry)) = left.map some := by
      have : left.isEmpty = false := by simpa [Array.isEmpty_iff_size_eq_zero] using hem
      simp [this]
    obtain ⟨k, dr, hk, hch⟩ : ∃ k dr, k < left.size ∧ (choose (.mapNext left.size)).run P w = .ok k { w with drawn := w.drawn + dr } := by
      by_cases h1 : left.size ≤ 1
      · exact ⟨0, 0, hpos, by simp [choose, Sem.run, Question.forced, h1]⟩
      · exact ⟨w.tape w.drawn (.mapNext left.size) % left.size, 1, Nat.mod_lt _ hpos, by simp [choose, Sem.run, Question.forced, h1, Question.cut]⟩
    have hkm : left[k] ∈ left := Array.getElem_mem hk
    generalize hx : left[k] = e at *
    have hke : left[k]? = some e := by rw [Array.getElem?_eq_getElem hk, hx]
    have hee : e ∈ es.toList ∧ seen.contains e.born = false := by
      rw [← hL] at hkm
      have := Array.mem_filter.1 hkm
      exact ⟨by simpa using this.1, by simpa using this.2⟩
    obtain ⟨i, hi, hei⟩ := List.getElem_of_mem hee.1
    have hip : i < ps.length := by omega
    have hz : (e, ps[i]) ∈ es.toList.zip ps := by
      rw [← hei]
      have hi' : i < es.size := by simpa using hi
      have : (es.toList.zip ps)[i]'(by simp; omega) = (es.toList[i], ps[i]) := by simp
      rw [← this]
      exact List.getElem_mem _
    obtain ⟨hek, hev⟩ := zip_keys h4 _ hz
    simp only at hek hev
    refine ⟨ps[i], { w with drawn := w.drawn + dr, heap := w.heap.setIfInBounds r (.mapIter (some b) clock (seen.push e.born) clock) }, ?_, ?_, List.getElem_mem hip, ?_, ?_, ?_, by simp⟩
    · have hso : ∀ o : Obj, (setObj r o).run P { w with drawn := w.drawn + dr } = .ok () { w with drawn := w.drawn + dr, heap := w.heap.setIfInBounds r o } := fun o => by simp [setObj, Sem.run, h6]
      have hcs : (left.map some).size = left.size := by simp
      have hcg : (left.map some)[k]? = some (some e) := by simp [hke]
      unfold Instr.next
      simp only [Sem.run_bind, hgi, Result.andThen_ok, MapKept.run_getObj_map h1, hgo, Bool.false_eq_true, if_false, hL, hold, hnew, hcand, hcs, hch, hcg, Sem.run_pure, hso, hek, hev]
    · have hr' : r < w.heap.size := (Array.getElem?_eq_some_iff.1 h6).1
      have g1 : (getObj r).run P { w with drawn := w.drawn + dr, heap := w.heap.setIfInBounds r (.mapIter (some b) clock (seen.push e.born) clock) } = .ok (.mapIter (some b) clock (seen.push e.born) clock) { w with drawn := w.drawn + dr, heap := w.heap.setIfInBounds r (.mapIter (some b) clock (seen.push e.born) clock) } := by
        simp [getObj, Sem.run, hr']
      have g2 : (getObj b).run P { w with drawn := w.drawn + dr, heap := w.heap.setIfInBounds r (.mapIter (some b) clock (seen.push e.born) clock) } = .ok (.map es clock) { w with drawn := w.drawn + dr, heap := w.heap.setIfInBounds r (.mapIter (some b) clock (seen.push e.born) clock) } := by
        have : (w.heap.setIfInBounds r (.mapIter (some b) clock (seen.push e.born) clock))[b]? = some (.map es clock) := by
          rw [Array.getElem?_setIfInBounds_ne (Ne.symm hbr)]; exact h1
        simp [getObj, Sem.run, this]
      have hfind : es.find? (fun x => x.born == e.born) = some e := by
        rw [← Array.find?_toList]
        rw [List.find?_eq_some_iff_getElem]
        refine ⟨by simp, i, hi, hei, fun j hj => ?_⟩
        have hpw := List.pairwise_iff_getElem.1 (List.pairwise_map.1 h3)
        have := hpw j i (by omega) hi hj
        rw [hei] at this
        simpa using this
      simp [Instr.entry, g1, g2, Result.andThen, hfind, hek, hev]
    · intro hmem
      obtain ⟨y, hy, e1⟩ := List.mem_map.1 hmem
      obtain ⟨z, hz', rfl⟩ := List.mem_map.1 hy
      have hzz := h7 z hz'
      have hz2 : z = (e, ps[i]) := by
        obtain ⟨j, hj, rfl⟩ := List.getElem_of_mem hzz
        have hj' : j < ps.length := by simp at hj; omega
        simp only [List.getElem_zip] at e1 ⊢
        have hpw := List.pairwise_iff_getElem.1 (List.pairwise_map.1 h5)
        rcases Nat.lt_trichotomy j i with h | h | h
        · exact absurd e1 (hpw j i hj' hip h)
        · subst h; rw [hei]
        · exact absurd e1.symm (hpw i j hip hj' h)
      have : e.born ∈ seen.toList := by rw [h9]; exact List.mem_map.2 ⟨z, hz', by rw [hz2]⟩
      have h10 := hee.2
      simp at h10
      exact h10 (by simpa using this)
    · have hr' : r < w.heap.size := (Array.getElem?_eq_some_iff.1 h6).1
      refine ⟨es, clock, seen.push e.born, zs ++ [(e, ps[i])], ?_, h2, h3, h4, h5, by simp [hr'], ?_, ?_, by simp [h9], by simp⟩
      · show (w.heap.setIfInBounds r _)[b]? = _
        rw [Array.getElem?_setIfInBounds_ne (Ne.symm hbr)]; exact h1
      · intro z hz'
        rcases List.mem_append.1 hz' with h | h
        · exact h7 z h
        · simp only [List.mem_singleton] at h; rw [h]; exact hz
      · rw [List.map_append, List.nodup_append]
        refine ⟨h8, by simp, ?_⟩
        intro x hx y hy e1
        simp only [List.map_cons, List.map_nil, List.mem_singleton] at hy
        have h10 := hee.2
        simp at h10
        exact h10 (by rw [← Array.mem_toList_iff, h9, ← hy, ← e1]; exact hx)
    · exact ⟨rfl, rfl, rfl, by simp, fun j _ hj => by simp at hj; simp [Array.getElem?_setIfInBounds_ne (Ne.symm hj)]⟩

/-! ### at the operation, for the walk -/
section
variable {P : Program} (w : World) {ops : Array Oper} {rest : List Oper} {o : Oper} {a : Act} {Q : Exit → Act → World → Prop}

theorem wpList_mapA_look {α : Type} [DecidableEq α] {enc : α → Value} (hg : o.guard = none) (m x : Operand) (T : TypeId) (hop : o.op = Op.lookup T m x false)
    (K E : TypeId) (L : KeyEnc P K enc) (ht : P.underlying T = some (.map K E)) {z : Value} (hz : (zeroValue E).run P w = .ok z w) (b : Nat) (ps : List (α × Value)) (hm : a.eval m = .map (some b)) (hown : MapA enc w b ps) (key : α) (hx : a.eval x = enc key)
    (hK : wpList P ops Q rest (a.put o.dst ((mfind ps key).getD z)) w) : wpList P ops Q (o :: rest) a w := by
  refine wpList_plain hg fun K' hK' => ?_
  have hrun := hown.look L ht hz key false
  unfold Oper.wp
  simp [execOp, hop, hm, hx, hrun, Result.andThen]
  exact hK' _ _ hK

theorem wpList_mapA_look_ok {α : Type} [DecidableEq α] {enc : α → Value} (hg : o.guard = none) (m x : Operand) (T : TypeId) (hop : o.op = Op.lookup T m x true)
    (K E : TypeId) (L : KeyEnc P K enc) (ht : P.underlying T = some (.map K E)) {z : Value} (hz : (zeroValue E).run P w = .ok z w) (b : Nat) (ps : List (α × Value)) (hm : a.eval m = .map (some b)) (hown : MapA enc w b ps) (key : α) (hx : a.eval x = enc key)
    (hK : wpList P ops Q rest (a.put o.dst (.tuple #[(mfind ps key).getD z, .bool (mfind ps key).isSome])) w) : wpList P ops Q (o :: rest) a w := by
  refine wpList_plain hg fun K' hK' => ?_
  have hrun := hown.look L ht hz key true
  unfold Oper.wp
  simp [execOp, hop, hm, hx, hrun, Result.andThen]
  exact hK' _ _ hK

theorem wpList_mapA_update {α : Type} [DecidableEq α] {enc : α → Value} (hg : o.guard = none) (m x v : Operand) (T : TypeId) (hop : o.op = Op.mapUpdate T m x v)
    (K E : TypeId) (L : KeyEnc P K enc) (ht : P.underlying T = some (.map K E)) (b : Nat) (ps : List (α × Value)) (hm : a.eval m = .map (some b)) (hown : MapA enc w b ps) (key : α) (hx : a.eval x = enc key) (val : Value) (hv : a.eval v = val)
    (hK : ∀ w', MapA enc w' b (mput ps key val) → Keep [b] w w' → wpList P ops Q rest (a.put o.dst undef) w') : wpList P ops Q (o :: rest) a w := by
  refine wpList_plain hg fun K' hK' => ?_
  obtain ⟨w', hrun, r1, r2⟩ := hown.update L ht key val
  unfold Oper.wp
  simp [execOp, hop, hm, hx, hv, hrun, Result.andThen]
  exact hK' _ _ (hK w' r1 r2)

theorem wpList_mapA_delete {α : Type} [DecidableEq α] {enc : α → Value} (hg : o.guard = none) (m x : Operand) (T K : TypeId) (hop : o.op = Op.call { callee := Callee.builtin Builtin.delete, args := #[m, x], argTypes := #[T, K] })
    (E : TypeId) (L : KeyEnc P K enc) (ht : P.underlying T = some (.map K E)) (b : Nat) (ps : List (α × Value)) (hm : a.eval m = .map (some b)) (hown : MapA enc w b ps) (key : α) (hx : a.eval x = enc key)
    (hK : ∀ w', MapA enc w' b (mdel ps key) → Keep [b] w w' → wpList P ops Q rest (a.put o.dst (.tuple #[])) w') : wpList P ops Q (o :: rest) a w := by
  refine wpList_plain hg fun K' hK' => ?_
  obtain ⟨w', hrun, r1, r2⟩ := hown.delete L ht key o.type
  unfold Oper.wp
  simp [execOp, hop, resolve, invoke, builtin, hm, hx, hrun, Result.andThen]
  exact hK' _ _ (hK w' r1 r2)

theorem wpList_append_row (hgd : o.guard = none) (s x : Operand) (T tx : TypeId) (ho : o.op = .call { callee := .builtin .append, args := #[s, x], argTypes := #[T, tx] })
    (E : TypeId) (i : TypeInfo) (z : Value) (k bytes : Nat) (ht : P.underlying T = some (.slice E)) (hi : P.info? E = some i) (hz : i.zero = some z) (hik : i.size = k) (hib : i.bytes = bytes) (hzs : z.cells.size = k)
    (v : Value) (n : Nat) (xs : List Value) (r : Option Nat) (hs : a.eval s = v) (hown : Row w E k v n xs r) (xv : Value) (hx : a.eval x = xv) (m : Nat) (news : List Value) (hsrc : Src P k tx xv m news w) (hpos : 0 < m) (h63 : n + m ≤ maxLen) (hbytes : (n + m) * bytes ≤ 140737488355328)
    (h : ∀ g off cap w', Row w' E k (.slice (some ⟨g, off, none⟩) (n + m) cap) (n + m) (xs ++ news) (some g) → Keep r.toList w w' → (r = some g ∨ w.heap.size ≤ g) → wpList P ops Q rest (a.put o.dst (.slice (some ⟨g, off, none⟩) (n + m) cap)) w') : wpList P ops Q (o :: rest) a w := by
  refine wpList_plain hgd fun K' hK' => ?_
  obtain ⟨g, off, cap, w', hr, h2, h3, h4⟩ := run_append_row (P := P) (w := w) (ty := o.type) ht hi hz hik hib hzs hown hsrc hpos h63 hbytes
  unfold Oper.wp execOp
  simp only [ho, resolve, invoke, builtin, Sem.run_bind, Sem.run_pure, Result.andThen_ok, List.map_toArray, List.map_cons, List.map_nil, hs, hx, hr]
  exact hK' _ _ (h g off cap w' h2 h3 h4)
theorem wpList_mapA_range {α : Type} {enc : α → Value} (hg : o.guard = none) (m : Operand) (T : TypeId) (hop : o.op = Op.range T m) (K E : TypeId) (ht : P.underlying T = some (.map K E)) (b : Nat) (ps : List (α × Value)) (hm : a.eval m = .map (some b)) (hown : MapA enc w b ps)
    (hK : ∀ w', MapIt enc w' b w.heap.size ps [] → Keep [] w w' → w'.heap.size = w.heap.size + 1 → wpList P ops Q rest (a.put o.dst (.pointer (some ⟨w.heap.size, 0, none⟩))) w') : wpList P ops Q (o :: rest) a w := by
  refine wpList_plain hg fun K' hK' => ?_
  obtain ⟨w', hrun, r1, r2, r3⟩ := hown.range (P := P) ht
  unfold Oper.wp
  simp [execOp, hop, hm, hrun, Result.andThen]
  exact hK' _ _ (hK w' r1 r2 r3)

theorem wpList_mapIt_next {α : Type} {enc : α → Value} (hg : o.guard = none) (it : Operand) (hop : o.op = Op.next it false) (b r : Nat) (ps vis : List (α × Value)) (hit : a.eval it = .pointer (some ⟨r, 0, none⟩)) (h : MapIt enc w b r ps vis) (hbr : b ≠ r)
    (hDone : vis.Perm ps → wpList P ops Q rest (a.put o.dst (.tuple #[.bool false])) w)
    (hMore : ∀ p w', (Instr.entry (.pointer (some ⟨r, 0, none⟩))).run P w' = .ok (.tuple #[enc p.1, p.2]) w' → p ∈ ps → p.1 ∉ vis.map (·.1) → MapIt enc w' b r ps (vis ++ [p]) → Keep [r] w w' → w'.heap.size = w.heap.size →
      wpList P ops Q rest (a.put o.dst (.tuple #[.bool true, enc p.1, p.2])) w') : wpList P ops Q (o :: rest) a w := by
  refine wpList_plain hg fun K' hK' => ?_
  unfold Oper.wp
  rcases h.next (P := P) hbr o.type with ⟨hrun, hp⟩ | ⟨p, w', hrun, hen, hp1, hp2, hp3, hp4, hp5⟩
  · simp [execOp, hop, hit, hrun, Result.andThen]
    exact hK' _ _ (hDone hp)
  · simp [execOp, hop, hit, hrun, Result.andThen]
    exact hK' _ _ (hMore p w' hen hp1 hp2 hp3 hp4 hp5)
end

end Go.Emb
