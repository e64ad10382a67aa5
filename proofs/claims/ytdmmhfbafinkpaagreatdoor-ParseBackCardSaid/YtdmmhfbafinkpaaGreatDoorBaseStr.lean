import Derived.Test.YtdmmhfbafinkpaaGreatDoorBase2
import Derived.Test.YtdmmhfbafinkpaaGreatDoorProg
import Derived.Test.YtdmmhfbafinkpaaGreatDoorShelf
import Derived.Lib.Builder
import Derived.WalkSpells
/- Bytes and builders: append where the row begins at its block's head; strings.Builder. -/
namespace Go.Emb
open Go.RowKit

def Off0 (v : Value) : Prop := ∀ b off n c, v = .slice (some ⟨b, off, none⟩) n c → off = 0
theorem Off0.nil : Off0 (.slice none 0 0) := fun _ _ _ _ h => by cases h
theorem Off0.mk (b n c : Nat) : Off0 (.slice (some ⟨b, 0, none⟩) n c) := fun _ _ _ _ h => by cases h; rfl
theorem run_append_row0 {P : Program} {w : World} {T tx ty E : TypeId} {i : TypeInfo} {z : Value} {k bytes : Nat} (ht : P.underlying T = some (.slice E)) (hi : P.info? E = some i) (hz : i.zero = some z) (hik : i.size = k) (hib : i.bytes = bytes)
    (hzs : z.cells.size = k) {v : Value} {n : Nat} {xs : List Value} {o : Option Nat} (h : Row w E k v n xs o) (hoff : Off0 v) {x : Value} {m : Nat} {news : List Value} (hs : Src P k tx x m news w) (hpos : 0 < m)
    (h63 : n + m ≤ maxLen) (hbytes : (n + m) * bytes ≤ 140737488355328) :
    ∃ g cap w', (Builtin.append_ #[T, tx] ty #[v, x]).run P w = .ok (.slice (some ⟨g, 0, none⟩) (n + m) cap) w' ∧ Row w' E k (.slice (some ⟨g, 0, none⟩) (n + m) cap) (n + m) (xs ++ news) (some g) ∧ Keep o.toList w w' ∧ (o = some g ∨ w.heap.size ≤ g) := by
  subst hik
  subst hib
  have hm := hs.newsLen
  have h1 := hs.one
  obtain ⟨hl, h⟩ := h
  have hlen : (xs ++ news).length = (n + m) * i.size := by rw [List.length_append, hl, hm, Nat.add_mul]
  have grown : ∀ (old : Nat), old < n + m → ∀ o : Option Nat,
      Row (w.drew.alloc (.cells ((xs ++ news).toArray ++ Builtin.zeroCells z.cells (grownCap w (n + m) old E - (n + m))) E)) E i.size
        (.slice (some ⟨w.heap.size, 0, none⟩) (n + m) (grownCap w (n + m) old E)) (n + m) (xs ++ news) (some w.heap.size) ∧
      Keep o.toList w (w.drew.alloc (.cells ((xs ++ news).toArray ++ Builtin.zeroCells z.cells (grownCap w (n + m) old E - (n + m))) E)) := by
    intro old ho o
    have hge := grownCap_ge w (n + m) old E
    have hcm : grownCap w (n + m) old E ≤ maxLen := grownCap_le_maxLen w (n + m) old E h63
    refine ⟨⟨hlen, .inr ⟨w.heap.size, 0, _, _, rfl, rfl, heap_alloc_new w.drew _, hge, hcm, ?_, ?_⟩⟩, (Keep.refl _ _).drew.alloc _⟩
    · simp only [Array.size_append, List.size_toArray, size_zeroCells, hzs, hlen, ← Nat.add_mul, Nat.zero_add]
      exact Nat.mul_le_mul_right _ (by omega)
    · intro j hj
      rw [Nat.zero_add, Array.getElem?_append_left (by simp only [List.size_toArray, hlen]; exact hj)]
      simp
  rcases h with ⟨rfl, rfl, rfl⟩ | ⟨b, off, cap, cs, rfl, rfl, hb, h2, h3, h4, h5⟩
  · have hx : xs = [] := List.eq_nil_of_length_eq_zero (by simpa using hl)
    subst hx
    have hr := run_append_grow_src (P := P) w T tx ty E i z ht hi hz none 0 0 [] (by simp [Builtin.firstCells]) x m news hs (by omega) (by simp only [maxLen] at h63; omega) (growslice_fits (by omega) hbytes)
    have hg := grown 0 (by omega) none
    simp only [List.nil_append] at hr hg ⊢
    exact ⟨_, _, _, hr, hg.1, hg.2, .inr (Nat.le_refl _)⟩
  · obtain rfl : off = 0 := hoff _ _ _ _ rfl
    by_cases hroom : n + m ≤ cap
    · have hfit : 0 + n * i.size + 0 + news.length ≤ cs.size := by
        have : (n + m) * i.size ≤ cap * i.size := Nat.mul_le_mul_right _ hroom
        rw [Nat.add_mul] at this
        omega
      have hst := run_storeCells_at P b (0 + n * i.size) E news 0 cs w hb hfit h1
      simp only [Nat.add_zero] at hst hfit
      have hst' := hst
      simp only [Nat.zero_add, List.append_assoc] at hst'
      have hr : (Builtin.append_ #[T, tx] ty #[.slice (some ⟨b, 0, none⟩) n cap, x]).run P w = .ok (.slice (some ⟨b, 0, none⟩) (n + m) cap) (w.setRow b (cs.toList.take (0 + n * i.size) ++ news ++ cs.toList.drop (0 + n * i.size + news.length)).toArray) := by
        rcases hs.kind with ⟨e', hk⟩ | hk <;> simp [Builtin.append_, run_underlying ht, run_underlying hk, sizeOf, typeInfo, hi, hs.len, hroom, hs.cells, Addr.add_lit, hst']
      refine ⟨b, cap, _, hr, ⟨hlen, .inr ⟨b, 0, cap, _, rfl, rfl, setRow_heap w b cs _ E _ hb, hroom, h3, ?_, ?_⟩⟩, ⟨rfl, rfl, rfl, by simp [World.setRow], fun k _ hk => setRow_other w b k _ (by simpa using hk)⟩, .inl rfl⟩
      · simp only [List.size_toArray, List.length_append, List.length_take, List.length_drop, Array.length_toList]
        omega
      · intro j hj
        rw [Nat.add_mul] at hj
        rw [List.getElem?_toArray, List.append_assoc]
        by_cases hjn : j < n * i.size
        · rw [List.getElem?_append_left (by simp; omega), List.getElem?_append_left (by omega), List.getElem?_take_of_lt (by omega), Array.getElem?_toList]
          exact h5 j hjn
        · have ht : (cs.toList.take (0 + n * i.size)).length = 0 + n * i.size := by simp; omega
          rw [List.getElem?_append_right (by omega), ht, List.getElem?_append_left (by omega), List.getElem?_append_right (by omega)]
          congr 1
          omega
    · have hold : (Builtin.firstCells i.size n (.slice (some ⟨b, 0, none⟩) n cap)).run P w.drew = .ok xs.toArray w.drew := by
        refine run_firstCells_some (P := P) w.drew i.size n _ n cap xs hl (fun j u hu => ?_)
        have hj : j < n * i.size := by
          rcases Nat.lt_or_ge j xs.length with h | h
          · omega
          · rw [List.getElem?_eq_none h] at hu; cases hu
        have hadd : (⟨b, 0, none⟩ : Addr).add j = ⟨b, 0 + j, none⟩ := by unfold Addr.add; split <;> simp_all
        rw [hadd, ← hu, ← h5 j hj]
        show w.cell? _ = _
        simp [World.cell?, hb]
      have hr := run_append_grow_src (P := P) w T tx ty E i z ht hi hz (some ⟨b, 0, none⟩) n cap xs hold x m news hs (by omega) (by simp only [maxLen] at h63; omega) (growslice_fits (by omega) hbytes)
      have hg := grown cap (by omega) (some b)
      exact ⟨_, _, _, hr, hg.1, hg.2, .inr (Nat.le_refl _)⟩


section
variable {P : Program} (w : World)
theorem wpList_append_row0 {ops : Array Oper} {rest : List Oper} {o : Oper} {a : Act} {Q : Exit → Act → World → Prop} (hgd : o.guard = none) (s x : Operand) (T tx : TypeId) (ho : o.op = .call { callee := .builtin .append, args := #[s, x], argTypes := #[T, tx] })
    (E : TypeId) (i : TypeInfo) (z : Value) (k bytes : Nat) (ht : P.underlying T = some (.slice E)) (hi : P.info? E = some i) (hz : i.zero = some z) (hik : i.size = k) (hib : i.bytes = bytes) (hzs : z.cells.size = k)
    (v : Value) (n : Nat) (xs : List Value) (oo : Option Nat) (hs : a.eval s = v) (hown : Row w E k v n xs oo) (hoff : Off0 v) (xv : Value) (hx : a.eval x = xv) (m : Nat) (news : List Value) (hsrc : Src P k tx xv m news w) (hpos : 0 < m) (h63 : n + m ≤ maxLen) (hbytes : (n + m) * bytes ≤ 140737488355328)
    (h : ∀ g cap' w', Row w' E k (.slice (some ⟨g, 0, none⟩) (n + m) cap') (n + m) (xs ++ news) (some g) → Keep oo.toList w w' → (oo = some g ∨ w.heap.size ≤ g) → wpList P ops Q rest (a.put o.dst (.slice (some ⟨g, 0, none⟩) (n + m) cap')) w') : wpList P ops Q (o :: rest) a w := by
  refine wpList_plain hgd fun K' hK' => ?_
  obtain ⟨g, cap', w', hr, h2, h3, h4⟩ := run_append_row0 (P := P) (w := w) (ty := o.type) ht hi hz hik hib hzs hown hoff hsrc hpos h63 hbytes
  unfold Oper.wp execOp
  simp only [ho, resolve, invoke, builtin, Sem.run_bind, Sem.run_pure, Result.andThen_ok, List.map_toArray, List.map_cons, List.map_nil, hs, hx, hr]
  exact hK' _ _ (h g cap' w' h2 h3 h4)
end
end Go.Emb
