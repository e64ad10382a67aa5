/-
  The base, more: appending in place out of what is read, clearing; slices of slices with both bounds.
-/
import Derived.Test.YtlfhnbdeadiedaaBase2
namespace Go.Emb
open Go.RowKit

theorem run_append_in {P : Program} {w : World} {T tx ty E e' : TypeId} {i : TypeInfo} {k : Nat} (ht : P.underlying T = some (.slice E)) (htx : P.underlying tx = some (.slice e')) (hi : P.info? E = some i) (hik : i.size = k)
    {b off n cap : Nat} {xs : List Value} (h : Row w E k (.slice (some ⟨b, off, none⟩) n cap) n xs (some b)) {x : Value} {m : Nat} {news : List Value} {ox : Option Nat} (hx : Rd w k x m news ox) (h1 : ∀ u ∈ news, u.oneCell' = true) (hroom : n + m ≤ cap) :
    ∃ w', (Builtin.append_ #[T, tx] ty #[.slice (some ⟨b, off, none⟩) n cap, x]).run P w = .ok (.slice (some ⟨b, off, none⟩) (n + m) cap) w' ∧ Row w' E k (.slice (some ⟨b, off, none⟩) (n + m) cap) (n + m) (xs ++ news) (some b) ∧ Keep [b] w w' := by
  by_cases hm : m = 0
  · subst hm
    have hn : news = [] := List.eq_nil_of_length_eq_zero (by simpa using hx.1)
    subst hn
    refine ⟨w, ?_, by simpa using h, Keep.refl _ _⟩
    obtain ⟨_, a, c, rfl, _⟩ := hx
    obtain ⟨_, h⟩ := h
    rcases h with ⟨h, _⟩ | ⟨b', off', cap', cs, e1, e2, hb, hc1, hc2, _⟩
    · cases h
    cases e1; cases e2
    cases a with
    | none => simp [Builtin.append_, run_underlying ht, run_underlying htx, sizeOf, typeInfo, hi, Builtin.lenOf, Builtin.firstCells, hc1, storeCells]
    | some a => simp [Builtin.append_, run_underlying ht, run_underlying htx, sizeOf, typeInfo, hi, Builtin.lenOf, Builtin.firstCells, loadCells, loadCellsFrom, hc1, storeCells]
  · have hs := hx.src htx (by omega) h1
    subst hik
    have hml := hs.newsLen
    obtain ⟨hl, h⟩ := h
    have hlen : (xs ++ news).length = (n + m) * i.size := by rw [List.length_append, hl, hml, Nat.add_mul]
    rcases h with ⟨h, _⟩ | ⟨b', off', cap', cs, e1, e2, hb, h2, h3, h4, h5⟩
    · cases h
    cases e1; cases e2
    have hfit : off + n * i.size + 0 + news.length ≤ cs.size := by
      have : (n + m) * i.size ≤ cap * i.size := Nat.mul_le_mul_right _ hroom
      rw [Nat.add_mul] at this
      omega
    have hst := run_storeCells_at P b (off + n * i.size) E news 0 cs w hb hfit h1
    simp only [Nat.add_zero] at hst hfit
    have hr : (Builtin.append_ #[T, tx] ty #[.slice (some ⟨b, off, none⟩) n cap, x]).run P w = .ok (.slice (some ⟨b, off, none⟩) (n + m) cap) (w.setRow b (cs.toList.take (off + n * i.size) ++ news ++ cs.toList.drop (off + n * i.size + news.length)).toArray) := by
      rcases hs.kind with ⟨e', hk⟩ | hk <;> simp [Builtin.append_, run_underlying ht, run_underlying hk, sizeOf, typeInfo, hi, hs.len, hroom, hs.cells, Addr.add_lit, hst]
    refine ⟨_, hr, ⟨hlen, .inr ⟨b, off, cap, _, rfl, rfl, setRow_heap w b cs _ E _ hb, hroom, h3, ?_, ?_⟩⟩, ⟨rfl, rfl, rfl, by simp [World.setRow], fun k _ hk => setRow_other w b k _ (by simpa using hk)⟩⟩
    · simp only [List.size_toArray, List.length_append, List.length_take, List.length_drop, Array.length_toList]
      omega
    · intro j hj
      rw [Nat.add_mul] at hj
      rw [List.getElem?_toArray, List.append_assoc]
      by_cases hjn : j < n * i.size
      · rw [List.getElem?_append_left (by simp; omega), List.getElem?_append_left (by omega), List.getElem?_take_of_lt (by omega), Array.getElem?_toList]
        exact h5 j hjn
      · have ht : (cs.toList.take (off + n * i.size)).length = off + n * i.size := by simp; omega
        rw [List.getElem?_append_right (by omega), ht, List.getElem?_append_left (by omega), List.getElem?_append_right (by omega)]
        congr 1
        omega

theorem step_append_in {P : Program} (w : World) {ops : Array Oper} {o : Oper} {a : Act} {K : Act → World → Prop} {Q : Exit → Act → World → Prop} {X : Prop} (hgd : o.guard = none) (s x : Operand) (T tx : TypeId) (ho : o.op = .call { callee := .builtin .append, args := #[s, x], argTypes := #[T, tx] })
    (E e' : TypeId) (i : TypeInfo) (k : Nat) (ht : P.underlying T = some (.slice E)) (htx : P.underlying tx = some (.slice e')) (hi : P.info? E = some i) (hik : i.size = k)
    (b off n cap : Nat) (xs : List Value) (hs : a.eval s = .slice (some ⟨b, off, none⟩) n cap) (hown : Row w E k (.slice (some ⟨b, off, none⟩) n cap) n xs (some b)) (xv : Value) (hx : a.eval x = xv) (m : Nat) (news : List Value) (ox : Option Nat) (hrd : Rd w k xv m news ox) (h1 : ∀ u ∈ news, u.oneCell' = true) (hroom : n + m ≤ cap) (N : Nat) (hN : n + m = N)
    (h : ∀ w', Row w' E k (.slice (some ⟨b, off, none⟩) N cap) N (xs ++ news) (some b) → Keep [b] w w' → K (a.put o.dst (.slice (some ⟨b, off, none⟩) N cap)) w') :
    if Region.wanted o (yielded ops a.tmps) = true then Oper.wp P o a w K Q else X := by
  subst hN
  have hw : Region.wanted o (yielded ops a.tmps) = true := by simp [Region.wanted, hgd]
  rw [if_pos hw]
  obtain ⟨w', hr, h2, h3⟩ := run_append_in (P := P) (w := w) (ty := o.type) ht htx hi hik hown hrd h1 hroom
  unfold Oper.wp execOp
  simp only [ho, resolve, invoke, builtin, Sem.run_bind, Sem.run_pure, Result.andThen_ok, List.map_toArray, List.map_cons, List.map_nil, hs, hx, hr]
  exact h w' h2 h3

/-- clear of one element behind the row -/
theorem run_clear_behind {P : Program} {w : World} {T E ty : TypeId} {k : Nat} {z : Value} (ht : P.underlying T = some (.slice E)) (hz : ∀ w, (zeroValue E).run P w = .ok z w) (hzs : z.cells.size = k) (hz1 : ∀ u ∈ z.cells.toList, u.oneCell' = true)
    {b off n cap c : Nat} {xs : List Value} (h : Row w E k (.slice (some ⟨b, off, none⟩) n cap) n xs (some b)) (hroom : n + 1 ≤ cap) :
    ∃ w', (Builtin.clear_ #[T] ty #[.slice (some ⟨b, off + n * k, none⟩) 1 c]).run P w = .ok (.tuple #[]) w' ∧ Row w' E k (.slice (some ⟨b, off, none⟩) n cap) n xs (some b) ∧ Keep [b] w w' := by
  obtain ⟨hl, h⟩ := h
  rcases h with ⟨h, _⟩ | ⟨b', off', cap', cs, e1, e2, hb, h2, h3, h4, h5⟩
  · cases h
  cases e1; cases e2
  have hzl : (Builtin.zeroCells z.cells 1).toList.length = k := by simp [size_zeroCells, hzs]
  have hfit : off + n * k + 0 + (Builtin.zeroCells z.cells 1).toList.length ≤ cs.size := by
    have : (n + 1) * k ≤ cap * k := Nat.mul_le_mul_right _ hroom
    rw [Nat.add_mul] at this
    omega
  have hone : ∀ u ∈ (Builtin.zeroCells z.cells 1).toList, u.oneCell' = true := by
    intro u hu
    simp [Builtin.zeroCells] at hu
    obtain ⟨a, ha, rfl⟩ := hu
    have hlt : a % z.cells.size < z.cells.size := Nat.mod_lt _ (by omega)
    refine hz1 _ ?_
    rw [getElem!_pos z.cells _ hlt]
    simp
  have hst := run_storeCells_at P b (off + n * k) E (Builtin.zeroCells z.cells 1).toList 0 cs w hb hfit hone
  simp only [Nat.add_zero] at hst hfit
  generalize hzz : (Builtin.zeroCells z.cells 1).toList = zs at *
  refine ⟨w.setRow b (cs.toList.take (off + n * k) ++ zs ++ cs.toList.drop (off + n * k + zs.length)).toArray, ?_, ⟨hl, .inr ⟨b, off, cap, _, rfl, rfl, setRow_heap w b cs _ E _ hb, h2, h3, ?_, ?_⟩⟩, ⟨rfl, rfl, rfl, by simp [World.setRow], fun k _ hk => setRow_other w b k _ (by simpa using hk)⟩⟩
  · simp [Builtin.clear_, run_underlying ht, hz, hzz, hst]
  · simp only [List.size_toArray, List.length_append, List.length_take, List.length_drop, Array.length_toList]
    omega
  · intro j hj
    rw [List.getElem?_toArray, List.append_assoc, List.getElem?_append_left (by simp; omega), List.getElem?_take_of_lt (by omega), Array.getElem?_toList]
    exact h5 j hj

theorem wpList_clear_behind {P : Program} (w : World) {ops : Array Oper} {rest : List Oper} {o : Oper} {a : Act} {Q : Exit → Act → World → Prop} (hgd : o.guard = none) (x : Operand) (T : TypeId) (ho : o.op = .call { callee := .builtin .clear, args := #[x], argTypes := #[T] })
    (E : TypeId) (z : Value) (k : Nat) (ht : P.underlying T = some (.slice E)) (hz : ∀ w, (zeroValue E).run P w = .ok z w) (hzs : z.cells.size = k) (hz1 : ∀ u ∈ z.cells.toList, u.oneCell' = true)
    (b off n cap c : Nat) (xs : List Value) (hx : a.eval x = .slice (some ⟨b, off + n * k, none⟩) 1 c) (hown : Row w E k (.slice (some ⟨b, off, none⟩) n cap) n xs (some b)) (hroom : n + 1 ≤ cap)
    (h : ∀ w', Row w' E k (.slice (some ⟨b, off, none⟩) n cap) n xs (some b) → Keep [b] w w' → wpList P ops Q rest (a.put o.dst (.tuple #[])) w') : wpList P ops Q (o :: rest) a w := by
  refine wpList_plain hgd fun K' hK' => ?_
  obtain ⟨w', hr, h2, h3⟩ := run_clear_behind (P := P) (w := w) (ty := o.type) (c := c) ht hz hzs hz1 hown hroom
  unfold Oper.wp execOp
  simp only [ho, resolve, invoke, builtin, Sem.run_bind, Sem.run_pure, Result.andThen_ok, List.map_toArray, List.map_cons, List.map_nil, hx, hr]
  exact hK' _ _ (h w' h2 h3)

section
variable {P : Program} (w : World)
theorem run_sliceHi {T E : TypeId} {k : Nat} (ht : P.underlying T = some (.slice E)) (hk : ∀ w, (sizeOf E).run P w = .ok k w) (b off n cap hi : Nat) (h : hi ≤ cap) :
    (Instr.slice T (.slice (some ⟨b, off, none⟩) n cap) none (some (.int .i64 (hi : Int))) none).run P w = .ok (.slice (some ⟨b, off, none⟩) hi cap) w := by
  have hb := run_sliceBound (P := P) w .i64 (hi : Int) cap .sliceAcap (by omega) (by omega)
  unfold Instr.slice Instr.sliceBounds
  simp [run_underlying ht, hb, hk, Result.andThen]
  by_cases hc : cap = 0
  · simp [hc]
  · simp [hc, Addr.add]
theorem run_sliceLH {T E : TypeId} {k : Nat} (ht : P.underlying T = some (.slice E)) (hk : ∀ w, (sizeOf E).run P w = .ok k w) (b off n cap lo hi : Nat) (h : hi ≤ cap) (h2 : lo ≤ hi) :
    (Instr.slice T (.slice (some ⟨b, off, none⟩) n cap) (some (.int .i64 (lo : Int))) (some (.int .i64 (hi : Int))) none).run P w = .ok (.slice (some ⟨b, sliceOff off cap lo k, none⟩) (hi - lo) (cap - lo)) w := by
  have hb := run_sliceBound (P := P) w .i64 (hi : Int) cap .sliceAcap (by omega) (by omega)
  have hb2 := run_sliceBound (P := P) w .i64 (lo : Int) hi .sliceB (by omega) (by omega)
  unfold Instr.slice Instr.sliceBounds sliceOff
  simp [run_underlying ht, hb, hb2, hk, Result.andThen]
  by_cases hc : cap = lo
  · simp [hc]
  · simp [hc, Addr.add]
theorem run_slice3I {T E : TypeId} {k : Nat} (ht : P.underlying T = some (.slice E)) (hk : ∀ w, (sizeOf E).run P w = .ok k w) (b off n cap lo hi mx : Nat) (h0 : mx ≤ cap) (h : hi ≤ mx) (h2 : lo ≤ hi) :
    (Instr.slice T (.slice (some ⟨b, off, none⟩) n cap) (some (.int .i64 (lo : Int))) (some (.int .i64 (hi : Int))) (some (.int .i64 (mx : Int)))).run P w = .ok (.slice (some ⟨b, sliceOff off mx lo k, none⟩) (hi - lo) (mx - lo)) w := by
  have hb0 := run_sliceBound (P := P) w .i64 (mx : Int) cap .slice3Acap (by omega) (by omega)
  have hb := run_sliceBound (P := P) w .i64 (hi : Int) mx .slice3B (by omega) (by omega)
  have hb2 := run_sliceBound (P := P) w .i64 (lo : Int) hi .slice3C (by omega) (by omega)
  unfold Instr.slice Instr.sliceBounds sliceOff
  simp [run_underlying ht, hb0, hb, hb2, hk, Result.andThen]
  by_cases hc : mx = lo
  · simp [hc]
  · simp [hc, Addr.add]
end
end Go.Emb
