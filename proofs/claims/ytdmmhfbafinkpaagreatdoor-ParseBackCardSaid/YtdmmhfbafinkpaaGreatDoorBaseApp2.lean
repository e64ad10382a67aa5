import Derived.Test.YtdmmhfbafinkpaaGreatDoorBase2
import Derived.Deep.Cut
import Derived.Deep.RegionHeld3
/-
  The base, more: appending what is read, nothing or something; an empty row in a new block.
-/
namespace Go.Emb
open Go.RowKit
/-- an append of nothing, or of something: in one law, the source read -/
theorem run_append_rd {P : Program} {w : World} {T tx ty E e' : TypeId} {i : TypeInfo} {z : Value} {k bytes : Nat} (ht : P.underlying T = some (.slice E)) (htx : P.underlying tx = some (.slice e')) (hi : P.info? E = some i) (hz : i.zero = some z) (hik : i.size = k) (hib : i.bytes = bytes)
    (hzs : z.cells.size = k) {b off n cap : Nat} {xs : List Value} (h : Row w E k (.slice (some ⟨b, off, none⟩) n cap) n xs (some b)) {x : Value} {m : Nat} {news : List Value} {ox : Option Nat} (hx : Rd w k x m news ox) (h1 : ∀ u ∈ news, u.oneCell' = true)
    (h63 : n + m ≤ maxLen) (hbytes : (n + m) * bytes ≤ 140737488355328) :
    ∃ g off' cap' w', (Builtin.append_ #[T, tx] ty #[.slice (some ⟨b, off, none⟩) n cap, x]).run P w = .ok (.slice (some ⟨g, off', none⟩) (n + m) cap') w' ∧ Row w' E k (.slice (some ⟨g, off', none⟩) (n + m) cap') (n + m) (xs ++ news) (some g) ∧ Keep [b] w w' ∧ (b = g ∨ w.heap.size ≤ g) := by
  by_cases hm : m = 0
  · subst hm
    have hn : news = [] := List.eq_nil_of_length_eq_zero (by simpa using hx.1)
    subst hn
    refine ⟨b, off, cap, w, ?_, by simpa using h, Keep.refl _ _, .inl rfl⟩
    obtain ⟨_, a, c, rfl, _⟩ := hx
    obtain ⟨_, h⟩ := h
    rcases h with ⟨h, _⟩ | ⟨b', off', cap', cs, e1, e2, hb, hc1, hc2, _⟩
    · cases h
    cases e1; cases e2
    cases a with
    | none => simp [Builtin.append_, run_underlying ht, run_underlying htx, sizeOf, typeInfo, hi, Builtin.lenOf, Builtin.firstCells, hc1, storeCells]
    | some a => simp [Builtin.append_, run_underlying ht, run_underlying htx, sizeOf, typeInfo, hi, Builtin.lenOf, Builtin.firstCells, loadCells, loadCellsFrom, hc1, storeCells]
  · obtain ⟨g, off', cap', w', r1, r2, r3, r4⟩ := run_append_row (P := P) (w := w) (ty := ty) ht hi hz hik hib hzs h (hx.src htx (by omega) h1) (by omega) h63 hbytes
    exact ⟨g, off', cap', w', r1, r2, r3, r4.imp (fun h => by cases h; rfl) id⟩

section
variable {P : Program} (w : World)
theorem wpList_append_rd {ops : Array Oper} {rest : List Oper} {o : Oper} {a : Act} {Q : Exit → Act → World → Prop} (hgd : o.guard = none) (s x : Operand) (T tx : TypeId) (ho : o.op = .call { callee := .builtin .append, args := #[s, x], argTypes := #[T, tx] })
    (E e' : TypeId) (i : TypeInfo) (z : Value) (k bytes : Nat) (ht : P.underlying T = some (.slice E)) (htx : P.underlying tx = some (.slice e')) (hi : P.info? E = some i) (hz : i.zero = some z) (hik : i.size = k) (hib : i.bytes = bytes) (hzs : z.cells.size = k)
    (b off n cap : Nat) (xs : List Value) (hs : a.eval s = .slice (some ⟨b, off, none⟩) n cap) (hown : Row w E k (.slice (some ⟨b, off, none⟩) n cap) n xs (some b)) (xv : Value) (hx : a.eval x = xv) (m : Nat) (news : List Value) (ox : Option Nat) (hrd : Rd w k xv m news ox) (h1 : ∀ u ∈ news, u.oneCell' = true) (h63 : n + m ≤ maxLen) (hbytes : (n + m) * bytes ≤ 140737488355328)
    (h : ∀ g off' cap' w', Row w' E k (.slice (some ⟨g, off', none⟩) (n + m) cap') (n + m) (xs ++ news) (some g) → Keep [b] w w' → (b = g ∨ w.heap.size ≤ g) → wpList P ops Q rest (a.put o.dst (.slice (some ⟨g, off', none⟩) (n + m) cap')) w') : wpList P ops Q (o :: rest) a w := by
  refine wpList_plain hgd fun K' hK' => ?_
  obtain ⟨g, off', cap', w', hr, h2, h3, h4⟩ := run_append_rd (P := P) (w := w) (ty := o.type) ht htx hi hz hik hib hzs hown hrd h1 h63 hbytes
  unfold Oper.wp execOp
  simp only [ho, resolve, invoke, builtin, Sem.run_bind, Sem.run_pure, Result.andThen_ok, List.map_toArray, List.map_cons, List.map_nil, hs, hx, hr]
  exact hK' _ _ (h g off' cap' w' h2 h3 h4)
theorem step_append_rd {ops : Array Oper} {o : Oper} {a : Act} {K : Act → World → Prop} {Q : Exit → Act → World → Prop} {X : Prop} (hgd : o.guard = none) (s x : Operand) (T tx : TypeId) (ho : o.op = .call { callee := .builtin .append, args := #[s, x], argTypes := #[T, tx] })
    (E e' : TypeId) (i : TypeInfo) (z : Value) (k bytes : Nat) (ht : P.underlying T = some (.slice E)) (htx : P.underlying tx = some (.slice e')) (hi : P.info? E = some i) (hz : i.zero = some z) (hik : i.size = k) (hib : i.bytes = bytes) (hzs : z.cells.size = k)
    (b off n cap : Nat) (xs : List Value) (hs : a.eval s = .slice (some ⟨b, off, none⟩) n cap) (hown : Row w E k (.slice (some ⟨b, off, none⟩) n cap) n xs (some b)) (xv : Value) (hx : a.eval x = xv) (m : Nat) (news : List Value) (ox : Option Nat) (hrd : Rd w k xv m news ox) (h1 : ∀ u ∈ news, u.oneCell' = true) (h63 : n + m ≤ maxLen) (hbytes : (n + m) * bytes ≤ 140737488355328)
    (h : ∀ g off' cap' w', Row w' E k (.slice (some ⟨g, off', none⟩) (n + m) cap') (n + m) (xs ++ news) (some g) → Keep [b] w w' → (b = g ∨ w.heap.size ≤ g) → K (a.put o.dst (.slice (some ⟨g, off', none⟩) (n + m) cap')) w') :
    if Region.wanted o (yielded ops a.tmps) = true then Oper.wp P o a w K Q else X := by
  have hw : Region.wanted o (yielded ops a.tmps) = true := by simp [Region.wanted, hgd]
  rw [if_pos hw]
  obtain ⟨g, off', cap', w', hr, h2, h3, h4⟩ := run_append_rd (P := P) (w := w) (ty := o.type) ht htx hi hz hik hib hzs hown hrd h1 h63 hbytes
  unfold Oper.wp execOp
  simp only [ho, resolve, invoke, builtin, Sem.run_bind, Sem.run_pure, Result.andThen_ok, List.map_toArray, List.map_cons, List.map_nil, hs, hx, hr]
  exact h g off' cap' w' h2 h3 h4
end
/-- an empty row in a new block -/
theorem Row.made0 (w : World) (E k : Nat) : Row (w.alloc (.cells #[] E)) E k (.slice (some ⟨w.heap.size, 0, none⟩) 0 0) 0 [] (some w.heap.size) :=
  ⟨by simp, .inr ⟨w.heap.size, 0, 0, #[], rfl, rfl, heap_alloc_new w _, Nat.le_refl _, by simp, by simp, by simp⟩⟩
end Go.Emb

/- A cut that forgets scratch slots at little cost: the frame behind it is known slot by slot. -/
namespace Go.Emb
open Go.RowKit

/-- the frame has n slots; R says what they hold (f i: slot i) -/
def CutF (n : Nat) (R : (Nat → Value) → World → Prop) (a : Act) (w : World) : Prop := a.tmps.size = n ∧ a.defers = [] ∧ R (fun i => a.tmps.getD i undef) w
theorem CutF.lit {n : Nat} {R : (Nat → Value) → World → Prop} {a : Act} {w : World} (h : CutF n R a w) : ∃ f : Nat → Value, a = ⟨((List.range n).map f).toArray, []⟩ ∧ R f w := by
  obtain ⟨h1, h2, h3⟩ := h
  refine ⟨_, ?_, h3⟩
  obtain ⟨t, d⟩ := a
  simp only at h1 h2
  subst h2
  congr 1
  apply Array.ext
  · simp [h1]
  · intro i hi1 hi2
    simp only [Array.getD, hi1, dif_pos, List.getElem_toArray, List.getElem_map, List.getElem_range]
    rfl
theorem CutF.mk {n : Nat} {R : (Nat → Value) → World → Prop} {t : Array Value} {w : World} (h1 : t.size = n) (h3 : R (fun i => t.getD i undef) w) : CutF n R ⟨t, []⟩ w := ⟨h1, rfl, h3⟩
end Go.Emb

/- A drawn region, taken operation by operation: the law over the list of operations; an append among them. -/
namespace Go.Emb
open Go.RowKit

theorem wpAnyH_takeL {P : Program} {l : List Oper} {Q : Exit → Act → World → Prop} {md : Region.Mode} {S : World → Prop} {i : Nat} {oi : Oper} {v : Value} {fuel : Nat} {listed : Array Bool} {a : Act} {w : World} (hi : l[i]? = some oi)
    (hs : Region.noSelect l.toArray = true) (hf : Region.free md l.toArray listed i = true) (hr : (Region.ready md l.toArray listed).contains i = true)
    (hQ : ∀ c a w, Q (.panic c) (a.put oi.dst v) w → Q (.panic c) a w) (hy : YieldsIf P l.toArray S oi v a) (hS : S w)
    (h : wpAnyH P md l.toArray Q S fuel (listed.setIfInBounds i true) (a.put oi.dst v) w) : wpAnyH P md l.toArray Q S (fuel + 1) listed a w :=
  wpAnyH_take (by simpa using hi) hs hf hr hQ hy hS h
theorem AllReadyH.consL {P : Program} {l : List Oper} {Q : Exit → Act → World → Prop} {md : Region.Mode} {S : World → Prop} {fuel : Nat} {listed : Array Bool} {a : Act} {w : World} {i : Nat} {o : Oper} {rs : List Nat} (ho : l[i]? = some o)
    (h : ∀ K' : Act → World → Prop, Shut (∀ a w, S w → (S w → wpAnyH P md l.toArray Q S fuel (listed.setIfInBounds i true) a w) → K' a w) → if Region.wanted o (yielded l.toArray a.tmps) = true then Oper.wp P o a w K' Q else K' (a.put o.dst undef) w)
    (hs : AllReadyH P md l.toArray Q S fuel listed a w rs) : AllReadyH P md l.toArray Q S fuel listed a w (i :: rs) :=
  AllReadyH.cons (by simpa using ho) h hs
/-- an append of what is read, wanted -/
theorem step_append_w {P : Program} (w : World) {ops : Array Oper} {o : Oper} {a : Act} {K : Act → World → Prop} {Q : Exit → Act → World → Prop} {X : Prop} (hw : Region.wanted o (yielded ops a.tmps) = true) (s x : Operand) (T tx : TypeId) (ho : o.op = .call { callee := .builtin .append, args := #[s, x], argTypes := #[T, tx] })
    (E e' : TypeId) (i : TypeInfo) (z : Value) (k bytes : Nat) (ht : P.underlying T = some (.slice E)) (htx : P.underlying tx = some (.slice e')) (hi : P.info? E = some i) (hz : i.zero = some z) (hik : i.size = k) (hib : i.bytes = bytes) (hzs : z.cells.size = k)
    (b off n cap : Nat) (xs : List Value) (hs : a.eval s = .slice (some ⟨b, off, none⟩) n cap) (hown : Row w E k (.slice (some ⟨b, off, none⟩) n cap) n xs (some b)) (xv : Value) (hx : a.eval x = xv) (m : Nat) (news : List Value) (ox : Option Nat) (hrd : Rd w k xv m news ox) (h1 : ∀ u ∈ news, u.oneCell' = true) (h63 : n + m ≤ maxLen) (hbytes : (n + m) * bytes ≤ 140737488355328)
    (h : ∀ g off' cap' w', Row w' E k (.slice (some ⟨g, off', none⟩) (n + m) cap') (n + m) (xs ++ news) (some g) → Keep [b] w w' → (b = g ∨ w.heap.size ≤ g) → K (a.put o.dst (.slice (some ⟨g, off', none⟩) (n + m) cap')) w') :
    if Region.wanted o (yielded ops a.tmps) = true then Oper.wp P o a w K Q else X := by
  rw [if_pos hw]
  obtain ⟨g, off', cap', w', hr, h2, h3, h4⟩ := run_append_rd (P := P) (w := w) (ty := o.type) ht htx hi hz hik hib hzs hown hrd h1 h63 hbytes
  unfold Oper.wp execOp
  simp only [ho, resolve, invoke, builtin, Sem.run_bind, Sem.run_pure, Result.andThen_ok, List.map_toArray, List.map_cons, List.map_nil, hs, hx, hr]
  exact h g off' cap' w' h2 h3 h4
end Go.Emb

/-
  The base, more: parts of a slice that is read.
-/
namespace Go.Emb
open Go.RowKit
/-- a part of a slice that is read -/
theorem Rd.upTo {w : World} {k b off n c : Nat} {xs : List Value} {o : Option Nat} (h : Rd w k (.slice (some ⟨b, off, none⟩) n c) n xs o) (m : Nat) (hm : m ≤ n) : ∃ o', Rd w k (.slice (some ⟨b, off, none⟩) m c) m (xs.take (m * k)) o' ∧ (o' = none ∨ o' = o) := by
  obtain ⟨hl, a, c', hv, h1, h2, h3⟩ := h
  cases hv
  have hk1 : m * k ≤ n * k := Nat.mul_le_mul_right _ hm
  have hlen : (xs.take (m * k)).length = m * k := by rw [List.length_take, hl]; omega
  by_cases h0 : m = 0
  · exact ⟨none, ⟨hlen, _, c, rfl, by omega, h2, .inl ⟨h0, rfl⟩⟩, .inl rfl⟩
  · rcases h3 with ⟨h3, _⟩ | ⟨b', off', e, ho, h3⟩
    · omega
    · cases e
      exact ⟨o, ⟨hlen, _, c, rfl, by omega, h2, .inr ⟨b, off, rfl, ho, fun i hi => by rw [List.getElem?_take_of_lt hi]; exact h3 i (by omega)⟩⟩, .inr rfl⟩
theorem Rd.fromAt {w : World} {k b off n c : Nat} {xs : List Value} {o : Option Nat} (h : Rd w k (.slice (some ⟨b, off, none⟩) n c) n xs o) (m : Nat) (hm : m ≤ n) : ∃ o', Rd w k (.slice (some ⟨b, sliceOff off c m k, none⟩) (n - m) (c - m)) (n - m) (xs.drop (m * k)) o' ∧ (o' = none ∨ o' = o) := by
  obtain ⟨hl, a, c', hv, h1, h2, h3⟩ := h
  cases hv
  have hk1 : m * k ≤ n * k := Nat.mul_le_mul_right _ hm
  have hlen : (xs.drop (m * k)).length = (n - m) * k := by rw [List.length_drop, hl, Nat.sub_mul]
  by_cases h0 : n - m = 0
  · exact ⟨none, ⟨hlen, _, c - m, rfl, by omega, by omega, .inl ⟨h0, rfl⟩⟩, .inl rfl⟩
  · rcases h3 with ⟨h3, _⟩ | ⟨b', off', e, ho, h3⟩
    · omega
    · cases e
      refine ⟨o, ⟨hlen, _, c - m, rfl, by omega, by omega, .inr ⟨b, _, rfl, ho, fun i hi => ?_⟩⟩, .inr rfl⟩
      rw [Nat.sub_mul] at hi
      unfold sliceOff
      rw [if_neg (by omega), List.getElem?_drop, Nat.add_assoc]
      exact h3 (m * k + i) (by omega)


theorem box_chain {wr W w2 : World} {og : Option Nat} {ob : Obj} (hk : Keep [] (wr.alloc ob) W) (hlt : ∀ b, og = some b → b < wr.heap.size) (hk2 : Keep og.toList W w2) : w2.heap[wr.heap.size]? = some ob := by
  have h1 := hk.size
  rw [hk2.block wr.heap.size (by simp at h1; omega) (by
    cases og with
    | none => simp
    | some b => have := hlt b rfl; simp; omega), hk.block wr.heap.size (by simp) (by simp)]
  exact heap_alloc_new wr ob
end Go.Emb
