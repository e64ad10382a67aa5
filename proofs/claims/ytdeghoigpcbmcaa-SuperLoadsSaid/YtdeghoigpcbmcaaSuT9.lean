/- Tapes of bytes: what is common to the program's and the document's. -/
import Derived.Test.YtdeghoigpcbmcaaSuN2
namespace Go.Proofs.Ytdeghoigpcbmcaa
open Go.RowKit Go.Emb

/-- block q is a tape of type T: bytes, place, fault and its place -/
structure TP (T : TypeId) (w : World) (q : Nat) (bs : List UInt8) (pos : Nat) (fa sp : Int) (v : Value) (bo : Option Nat) : Prop where
  blk : w.heap[q]? = some (.cells #[v, .int .i64 (pos : Int), .int .i64 fa, .int .i64 sp] T)
  rd : Rd w 1 v bs.length (Lib.byteCells bs) bo
  ne : ∀ b, bo = some b → b ≠ q
  le : pos ≤ bs.length
  sz : bs.length ≤ 1000000000
theorem TP.keep {T : TypeId} {w w' : World} {q : Nat} {bs : List UInt8} {pos : Nat} {fa sp : Int} {v : Value} {bo : Option Nat} {F : List Nat} (h : TP T w q bs pos fa sp v bo) (hk : Keep F w w') (hq : q ∉ F) (hF : ∀ b, bo = some b → b ∉ F) : TP T w' q bs pos fa sp v bo :=
  ⟨(hk.block q (Array.getElem?_eq_some_iff.1 h.blk).1 hq).trans h.blk, h.rd.keep hk hF, h.ne, h.le, h.sz⟩
theorem TP.keep0 {T : TypeId} {w w' : World} {q : Nat} {bs : List UInt8} {pos : Nat} {fa sp : Int} {v : Value} {bo : Option Nat} (h : TP T w q bs pos fa sp v bo) (hk : Keep [] w w') : TP T w' q bs pos fa sp v bo := h.keep hk (by simp) (by simp)
theorem cells4 {w : World} {q : Nat} {x y z u : Value} {t : TypeId} (h : w.heap[q]? = some (.cells #[x, y, z, u] t (0, 0))) :
    w.cell? ⟨q, 0, none⟩ = some x ∧ w.cell? ⟨q, 1, none⟩ = some y ∧ w.cell? ⟨q, 2, none⟩ = some z ∧ w.cell? ⟨q, 3, none⟩ = some u ∧ w.frozen? ⟨q, 0, none⟩ = false ∧ w.frozen? ⟨q, 1, none⟩ = false ∧ w.frozen? ⟨q, 2, none⟩ = false ∧ w.frozen? ⟨q, 3, none⟩ = false := by
  refine ⟨?_, ?_, ?_, ?_, ?_, ?_, ?_, ?_⟩ <;> simp [World.cell?, World.frozen?, h]
/-- the tape with another place and fault -/
theorem TP.turn {T : TypeId} {w w' : World} {q : Nat} {bs : List UInt8} {pos : Nat} {fa sp : Int} {v : Value} {bo : Option Nat} (h : TP T w q bs pos fa sp v bo) (hk : Keep [q] w w') {pos' : Nat} {fa' sp' : Int} (hle : pos' ≤ bs.length)
    (hb : w'.heap[q]? = some (.cells #[v, .int .i64 (pos' : Int), .int .i64 fa', .int .i64 sp'] T)) : TP T w' q bs pos' fa' sp' v bo :=
  ⟨hb, h.rd.keep hk (fun b hb hm => h.ne b hb (by simpa using hm)), h.ne, hle, h.sz⟩
/-- what a tape comes to: none: a fault; some l: l is left -/
def TSt (T : TypeId) (w : World) (q : Nat) (bs : List UInt8) (v : Value) (bo : Option Nat) (st : Option (List UInt8)) : Prop :=
  ∃ pos fa sp, TP T w q bs pos fa sp v bo ∧ ((st = none ∧ fa ≠ 0 ∧ -9223372036854775808 ≤ fa ∧ fa ≤ 9223372036854775807) ∨ (fa = 0 ∧ sp = 0 ∧ st = some (bs.drop pos)))
theorem TSt.keep0 {T : TypeId} {w w' : World} {q : Nat} {bs : List UInt8} {v : Value} {bo : Option Nat} {st : Option (List UInt8)} (h : TSt T w q bs v bo st) (hk : Keep [] w w') : TSt T w' q bs v bo st := by
  obtain ⟨pos, fa, sp, h1, h2⟩ := h
  exact ⟨pos, fa, sp, h1.keep0 hk, h2⟩
theorem TSt.keep {T : TypeId} {w w' : World} {q : Nat} {bs : List UInt8} {v : Value} {bo : Option Nat} {st : Option (List UInt8)} {F : List Nat} (h : TSt T w q bs v bo st) (hk : Keep F w w') (hq : q ∉ F) (hF : ∀ b, bo = some b → b ∉ F) : TSt T w' q bs v bo st := by
  obtain ⟨pos, fa, sp, h1, h2⟩ := h
  exact ⟨pos, fa, sp, h1.keep hk hq hF, h2⟩
def oNum (more : Bool) (st : Option (List UInt8)) : Nat × Bool × Option (List UInt8) :=
  match st.bind (pNum more) with
  | none => (0, false, none)
  | some (n, is, r) => (n, is, some r)
def oInt (st : Option (List UInt8)) : Int × Option (List UInt8) :=
  match st.bind pInt with
  | none => (0, none)
  | some (n, r) => (n, some r)
def oStr (st : Option (List UInt8)) : List UInt8 × Option (List UInt8) :=
  match st.bind pStr with
  | none => ([], none)
  | some (s, r) => (s, some r)
theorem oNum_lt (more : Bool) (st : Option (List UInt8)) : (oNum more st).1 < 18446744073709551616 := by
  unfold oNum
  split
  · simp
  · rename_i n is r h
    obtain ⟨l, -, h2⟩ := Option.bind_eq_some_iff.1 h
    exact (pNum_inv h2).2.1
theorem oInt_in (st : Option (List UInt8)) : I64 (oInt st).1 := by
  unfold oInt
  split
  · exact ⟨by simp, by simp⟩
  · rename_i n r h
    obtain ⟨l, -, h2⟩ := Option.bind_eq_some_iff.1 h
    exact (pInt_inv h2).2
/-- of a number behind one: the bytes so far, the next one -/
theorem or_byte (n c : Nat) (hn : n < 72057594037927936) (hc : c < 256) : bits BinOp.or IntKind.u64 ((n * 256 : Nat) : Int) (c : Int) = ((n * 256 + c : Nat) : Int) := by
  show IntKind.u64.wrap ((BitVec.ofInt 64 ((n * 256 : Nat) : Int) ||| BitVec.ofInt 64 (c : Int)).toNat : Int) = _
  rw [BitVec.toNat_or, BitVec.toNat_ofInt, BitVec.toNat_ofInt]
  have h1 : (((n * 256 : Nat) : Int) % ((2 : Nat) ^ 64 : Nat)).toNat = n <<< 8 := by
    rw [Nat.shiftLeft_eq]; omega
  have h2 : ((c : Int) % ((2 : Nat) ^ 64 : Nat)).toNat = c := by omega
  rw [h1, h2, ← Nat.shiftLeft_add_eq_or_of_lt (by omega), Nat.shiftLeft_eq, IntWalk.u64_in _ (by omega)]
theorem valL_take {l : List UInt8} {i : Nat} (h : i < l.length) : valL (l.take (i + 1)) = valL (l.take i) * 256 + l[i].toNat := by
  rw [List.take_succ_eq_append_getElem h, valL_snoc]
theorem valL_take_lt {l : List UInt8} {i : Nat} (h : i < 8) : valL (l.take i) < 72057594037927936 := by
  have h1 := valL_lt (l.take i)
  have h2 : (256 : Nat) ^ (l.take i).length ≤ 256 ^ 7 := Nat.pow_le_pow_right (by omega) (by rw [List.length_take]; omega)
  have h3 : (256 : Nat) ^ 7 = 72057594037927936 := by decide
  omega
/-- the number of a byte row that begins with nought has fewer bytes -/
theorem beL_len {n k : Nat} (hk : k ≤ 8) (h : n < 256 ^ k) : (beL n).length ≤ k := by
  have hn : n < 18446744073709551616 := by
    rw [← pow64]
    exact Nat.lt_of_lt_of_le h (Nat.pow_le_pow_right (by omega) hk)
  rw [← bitLen_beL hn, bitLen_bytes k n hk h]
  exact beF_length k n
theorem many_head {l : List UInt8} (h : l.length ≤ 8) : (beL (valL l)).length = l.length ↔ l.head? ≠ some 0 := by
  constructor
  · intro h1 h2
    cases l with
    | nil => simp at h2
    | cons c r =>
      simp at h2
      subst h2
      have h3 : valL (0 :: r) = valL r := by simp [valL]
      rw [h3] at h1
      have h4 := beL_len (n := valL r) (k := r.length) (by simp at h; omega) (valL_lt r)
      simp at h1
      omega
  · intro h1
    rw [beL_valL h h1]
/-- a part of what is read -/
theorem rd_slice {P : Program} {w : World} {T E : TypeId} (ht : P.underlying T = some (.slice E)) (hk : ∀ w, (sizeOf E).run P w = .ok 1 w) {a : Option Addr} {n c : Nat} {xs : List Value} {o : Option Nat} (h : Rd w 1 (.slice a n c) n xs o) {lo m : Nat} (hm : lo + m ≤ n) {hi : Int} (hhi : hi = ((lo + m : Nat) : Int)) :
    ∃ v o', (∀ W, (Instr.slice T (.slice a n c) (some (.int .i64 (lo : Int))) (some (.int .i64 hi)) none).run P W = .ok v W) ∧ Rd w 1 v m ((xs.drop lo).take m) o' ∧ (o' = none ∨ o' = o) := by
  subst hhi
  obtain ⟨hl, a', c', hv, h1, h2, h3⟩ := h
  cases hv
  obtain ⟨u, hu⟩ : ∃ u, u = lo + m := ⟨_, rfl⟩
  rw [← hu]
  have hrun : ∀ W, (Instr.slice T (.slice a n c) (some (.int .i64 (lo : Int))) (some (.int .i64 (u : Int))) none).run P W = .ok (.slice (if c = lo then a else a.map (·.add (lo * 1))) m (c - lo)) W := fun W => by
    have hb := run_sliceBound (P := P) W .i64 (u : Int) c .sliceAcap (by omega) (by omega)
    have hb2 := run_sliceBound (P := P) W .i64 (lo : Int) u .sliceB (by omega) (by omega)
    have hml : u - lo = m := by omega
    unfold Instr.slice Instr.sliceBounds
    simp [run_underlying ht, hb, hb2, hk, Result.andThen, hml]
  have hlx : ((xs.drop lo).take m).length = m * 1 := by rw [List.length_take, List.length_drop]; omega
  rcases h3 with ⟨h3, h4⟩ | ⟨b, off, rfl, rfl, h3⟩
  · obtain rfl : m = 0 := by omega
    exact ⟨_, none, hrun, ⟨hlx, _, _, rfl, Nat.zero_le _, by omega, .inl ⟨rfl, rfl⟩⟩, .inl rfl⟩
  · by_cases hc : c = lo
    · obtain rfl : m = 0 := by omega
      exact ⟨_, none, hrun, ⟨hlx, _, _, rfl, Nat.zero_le _, by omega, .inl ⟨rfl, rfl⟩⟩, .inl rfl⟩
    · refine ⟨_, some b, hrun, ⟨hlx, _, _, rfl, by omega, by omega, .inr ⟨b, off + lo, ?_, rfl, fun i hi => ?_⟩⟩, .inr rfl⟩
      · rw [if_neg hc]; simp [Addr.add]
      · rw [Nat.add_assoc, h3 (lo + i) (by omega), List.getElem?_take_of_lt (by omega), List.getElem?_drop]
theorem byteCells_part (bs : List UInt8) (lo m : Nat) : ((Lib.byteCells bs).drop lo).take m = Lib.byteCells ((bs.drop lo).take m) := by
  simp [Lib.byteCells, List.map_take, List.map_drop]
end Go.Proofs.Ytdeghoigpcbmcaa
