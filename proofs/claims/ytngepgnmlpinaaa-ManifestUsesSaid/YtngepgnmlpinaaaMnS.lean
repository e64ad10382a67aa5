/- append(b, s...) at a string, empty or not. -/
import Derived.Test.YtngepgnmlpinaaaMn2
namespace Go.Proofs.Ytngepgnmlpinaaa
open Go.RowKit Go.Emb

theorem run_append_str {P : Program} {w : World} {T tx ty E : TypeId} {i : TypeInfo} {z : Value} {bytes : Nat} (ht : P.underlying T = some (.slice E)) (htx : P.underlying tx = some .string) (hi : P.info? E = some i) (hz : i.zero = some z) (hik : i.size = 1) (hib : i.bytes = bytes)
    (hzs : z.cells.size = 1) {b off n cap : Nat} {xs : List Value} (h : Row w E 1 (.slice (some ⟨b, off, none⟩) n cap) n xs (some b)) (s : ByteArray) (h63 : n + s.size ≤ maxLen) (hbytes : (n + s.size) * bytes ≤ 140737488355328) :
    ∃ g off' cap' w', (Builtin.append_ #[T, tx] ty #[.slice (some ⟨b, off, none⟩) n cap, .string s]).run P w = .ok (.slice (some ⟨g, off', none⟩) (n + s.size) cap') w' ∧ Row w' E 1 (.slice (some ⟨g, off', none⟩) (n + s.size) cap') (n + s.size) (xs ++ Lib.byteCells s.data.toList) (some g) ∧ Keep [b] w w' ∧ (b = g ∨ w.heap.size ≤ g) := by
  by_cases hm : s.size = 0
  · have hsl : s.size = s.data.toList.length := by simp
    have hn : s.data.toList = [] := List.eq_nil_of_length_eq_zero (by omega)
    have hs : s = ⟨#[]⟩ := by apply ByteArray.ext; exact Array.ext' (by simpa using hn)
    rw [hm, hn]
    refine ⟨b, off, cap, w, ?_, by simpa [Lib.byteCells] using h, Keep.refl _ _, .inl rfl⟩
    obtain ⟨_, h⟩ := h
    rcases h with ⟨h, _⟩ | ⟨b', off', cap', cs, e1, e2, hb, hc1, hc2, _⟩
    · cases h
    cases e1; cases e2
    clear hm hn hsl h63 hbytes
    subst hs
    have h0 : (⟨#[]⟩ : ByteArray).size = 0 := rfl
    simp [Builtin.append_, run_underlying ht, run_underlying htx, sizeOf, typeInfo, hi, Builtin.lenOf, Builtin.firstCells, hc1, storeCells, h0]
  · obtain ⟨g, off', cap', w', r1, r2, r3, r4⟩ := run_append_row (P := P) (w := w) (ty := ty) ht hi hz hik hib hzs h (Src.ofString w htx s) (by omega) h63 hbytes
    exact ⟨g, off', cap', w', r1, r2, r3, r4.imp (fun h => by cases h; rfl) id⟩
theorem wpList_append_str {P : Program} (w : World) {ops : Array Oper} {rest : List Oper} {o : Oper} {a : Act} {Q : Exit → Act → World → Prop} (hgd : o.guard = none) (s x : Operand) (T tx : TypeId) (ho : o.op = .call { callee := .builtin .append, args := #[s, x], argTypes := #[T, tx] })
    (E : TypeId) (i : TypeInfo) (z : Value) (bytes : Nat) (ht : P.underlying T = some (.slice E)) (htx : P.underlying tx = some .string) (hi : P.info? E = some i) (hz : i.zero = some z) (hik : i.size = 1) (hib : i.bytes = bytes) (hzs : z.cells.size = 1)
    (b off n cap : Nat) (xs : List Value) (hs : a.eval s = .slice (some ⟨b, off, none⟩) n cap) (hown : Row w E 1 (.slice (some ⟨b, off, none⟩) n cap) n xs (some b)) (st : ByteArray) (hx : a.eval x = .string st) (h63 : n + st.size ≤ maxLen) (hbytes : (n + st.size) * bytes ≤ 140737488355328)
    (h : ∀ g off' cap' w', Row w' E 1 (.slice (some ⟨g, off', none⟩) (n + st.size) cap') (n + st.size) (xs ++ Lib.byteCells st.data.toList) (some g) → Keep [b] w w' → (b = g ∨ w.heap.size ≤ g) → wpList P ops Q rest (a.put o.dst (.slice (some ⟨g, off', none⟩) (n + st.size) cap')) w') : wpList P ops Q (o :: rest) a w := by
  refine wpList_plain hgd fun K' hK' => ?_
  obtain ⟨g, off', cap', w', hr, h2, h3, h4⟩ := run_append_str (P := P) (w := w) (ty := o.type) ht htx hi hz hik hib hzs hown st h63 hbytes
  unfold Oper.wp execOp
  simp only [ho, resolve, invoke, builtin, Sem.run_bind, Sem.run_pure, Result.andThen_ok, List.map_toArray, List.map_cons, List.map_nil, hs, hx, hr]
  exact hK' _ _ (h g off' cap' w' h2 h3 h4)
theorem RB.block {w : World} {v : Value} {bs : List UInt8} {o : Option Nat} (h : RB w v bs o) (hb : 0 < bs.length) : ∃ b off cap, v = .slice (some ⟨b, off, none⟩) bs.length cap ∧ o = some b ∧ Row w 5 1 v bs.length (Lib.byteCells bs) (some b) := by
  obtain ⟨hl, ⟨-, -, h0⟩ | ⟨b, off, cap, cs, rfl, rfl, hh⟩⟩ := id h
  · omega
  · exact ⟨b, off, cap, rfl, rfl, h⟩
end Go.Proofs.Ytngepgnmlpinaaa
