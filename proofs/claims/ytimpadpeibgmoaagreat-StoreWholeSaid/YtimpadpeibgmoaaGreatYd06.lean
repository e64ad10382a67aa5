/- A part of the proof (Mn8, Mn9, Mn10, Mn11, Mn12), joined by squeeze2.py. -/
import Derived.Test.YtimpadpeibgmoaaGreatYd05
set_option maxHeartbeats 8000000
set_option maxRecDepth 100000
namespace Go.Proofs.YtimpadpeibgmoaaGreat
open Go.RowKit Go.Emb
structure TP (T : TypeId) (w : World) (q : Nat) (bs : List UInt8) (pos : Nat) (fa sp : Int) (v : Value) (bo : Option Nat) : Prop where
 blk : w.heap[q]? = some (.cells #[v, .int .i64 (pos : Int), .int .i64 fa, .int .i64 sp] T)
 rd : Rd w 1 v bs.length (Lib.byteCells bs) bo
 ne : ∀ b, bo = some b → b ≠ q
 le : pos ≤ bs.length
 sz : bs.length ≤ 1000000000
theorem TP.keep {T : TypeId} {w w' : World} {q : Nat} {bs : List UInt8} {pos : Nat} {fa sp : Int} {v : Value} {bo : Option Nat} {F : List Nat} (h : TP T w q bs pos fa sp v bo) (hk : Keep F w w') (hq : q ∉ F) (hF : ∀ b, bo = some b → b ∉ F) : TP T w' q bs pos fa sp v bo :=
 ⟨(hk.block q (Array.getElem?_eq_some_iff.1 h.blk).1 hq).trans h.blk, h.rd.keep hk hF, h.ne, h.le, h.sz⟩
theorem TP.keep0 {T : TypeId} {w w' : World} {q : Nat} {bs : List UInt8} {pos : Nat} {fa sp : Int} {v : Value} {bo : Option Nat} (h : TP T w q bs pos fa sp v bo) (hk : Keep [] w w') : TP T w' q bs pos fa sp v bo := h.keep hk (by simp) (by simp)
theorem cells4 {w : World} {q : Nat} {x y z u : Value} {t : TypeId} (h : w.heap[q]? = some (.cells #[x, y, z, u] t (0, 0))) :
  w.cell? ⟨q, 0, none⟩ = some x ∧ w.cell? ⟨q, 1, none⟩ = some y ∧ w.cell? ⟨q, 2, none⟩ = some z ∧ w.cell? ⟨q, 3, none⟩ = some u ∧ w.frozen? ⟨q, 0, none⟩ = false ∧ w.frozen? ⟨q, 1, none⟩ = false ∧ w.frozen? ⟨q, 2, none⟩ = false ∧ w.frozen? ⟨q, 3, none⟩ = false := by
 refine ⟨?_, ?_, ?_, ?_, ?_, ?_, ?_, ?_⟩ <;> simp [World.cell?, World.frozen?, h]
theorem TP.turn {T : TypeId} {w w' : World} {q : Nat} {bs : List UInt8} {pos : Nat} {fa sp : Int} {v : Value} {bo : Option Nat} (h : TP T w q bs pos fa sp v bo) (hk : Keep [q] w w') {pos' : Nat} {fa' sp' : Int} (hle : pos' ≤ bs.length)
  (hb : w'.heap[q]? = some (.cells #[v, .int .i64 (pos' : Int), .int .i64 fa', .int .i64 sp'] T)) : TP T w' q bs pos' fa' sp' v bo :=
 ⟨hb, h.rd.keep hk (fun b hb hm => h.ne b hb (by simpa using hm)), h.ne, hle, h.sz⟩
def TSt (T : TypeId) (w : World) (q : Nat) (bs : List UInt8) (v : Value) (bo : Option Nat) (st : Option (List UInt8)) : Prop :=
 ∃ pos fa sp, TP T w q bs pos fa sp v bo ∧ ((st = none ∧ fa ≠ 0 ∧ -9223372036854775808 ≤ fa ∧ fa ≤ 9223372036854775807) ∨ (fa = 0 ∧ sp = 0 ∧ st = some (bs.drop pos)))
theorem TSt.keep0 {T : TypeId} {w w' : World} {q : Nat} {bs : List UInt8} {v : Value} {bo : Option Nat} {st : Option (List UInt8)} (h : TSt T w q bs v bo st) (hk : Keep [] w w') : TSt T w' q bs v bo st := by
 obtain ⟨pos, fa, sp, h1, h2⟩ := h
 exact ⟨pos, fa, sp, h1.keep0 hk, h2⟩
theorem TSt.keep {T : TypeId} {w w' : World} {q : Nat} {bs : List UInt8} {v : Value} {bo : Option Nat} {st : Option (List UInt8)} {F : List Nat} (h : TSt T w q bs v bo st) (hk : Keep F w w') (hq : q ∉ F) (hF : ∀ b, bo = some b → b ∉ F) : TSt T w' q bs v bo st := by
 obtain ⟨pos, fa, sp, h1, h2⟩ := h
 exact ⟨pos, fa, sp, h1.keep hk hq hF, h2⟩
def oNum (more : Bool) (st : Option (List UInt8)) : Nat × Bool × Option (List UInt8) :=
 match st.bind (pNum more) with
 | none => (0, false, none)
 | some (n, is, r) => (n, is, some r)
def oInt (st : Option (List UInt8)) : Int × Option (List UInt8) :=
 match st.bind pInt with
 | none => (0, none)
 | some (n, r) => (n, some r)
def oStr (st : Option (List UInt8)) : List UInt8 × Option (List UInt8) :=
 match st.bind pStr with
 | none => ([], none)
 | some (s, r) => (s, some r)
theorem oNum_lt (more : Bool) (st : Option (List UInt8)) : (oNum more st).1 < 18446744073709551616 := by
 unfold oNum
 split
 ·simp
 ·rename_i n is r h
  obtain ⟨l, -, h2⟩ := Option.bind_eq_some_iff.1 h
  exact (pNum_inv h2).2.1
theorem or_byte (n c : Nat) (hn : n < 72057594037927936) (hc : c < 256) : bits BinOp.or IntKind.u64 ((n * 256 : Nat) : Int) (c : Int) = ((n * 256 + c : Nat) : Int) := by
 show IntKind.u64.wrap ((BitVec.ofInt 64 ((n * 256 : Nat) : Int) ||| BitVec.ofInt 64 (c : Int)).toNat : Int) = _
 rw [BitVec.toNat_or, BitVec.toNat_ofInt, BitVec.toNat_ofInt]
 have h1 : (((n * 256 : Nat) : Int) % ((2 : Nat) ^ 64 : Nat)).toNat = n <<< 8 := by
  rw [Nat.shiftLeft_eq]; omega
 have h2 : ((c : Int) % ((2 : Nat) ^ 64 : Nat)).toNat = c := by omega
 rw [h1, h2, ← Nat.shiftLeft_add_eq_or_of_lt (by omega), Nat.shiftLeft_eq, IntWalk.u64_in _ (by omega)]
theorem valL_take {l : List UInt8} {i : Nat} (h : i < l.length) : valL (l.take (i + 1)) = valL (l.take i) * 256 + l[i].toNat := by
 rw [List.take_succ_eq_append_getElem h, valL_snoc]
theorem valL_take_lt {l : List UInt8} {i : Nat} (h : i < 8) : valL (l.take i) < 72057594037927936 := by
 have h1 := valL_lt (l.take i)
 have h2 : (256 : Nat) ^ (l.take i).length ≤ 256 ^ 7 := Nat.pow_le_pow_right (by omega) (by rw [List.length_take]; omega)
 have h3 : (256 : Nat) ^ 7 = 72057594037927936 := by decide
 omega
theorem rd_slice {P : Program} {w : World} {T E : TypeId} (ht : P.underlying T = some (.slice E)) (hk : ∀ w, (sizeOf E).run P w = .ok 1 w) {a : Option Addr} {n c : Nat} {xs : List Value} {o : Option Nat} (h : Rd w 1 (.slice a n c) n xs o) {lo m : Nat} (hm : lo + m ≤ n) {hi : Int} (hhi : hi = ((lo + m : Nat) : Int)) :
  ∃ v o', (∀ W, (Instr.slice T (.slice a n c) (some (.int .i64 (lo : Int))) (some (.int .i64 hi)) none).run P W = .ok v W) ∧ Rd w 1 v m ((xs.drop lo).take m) o' ∧ (o' = none ∨ o' = o) := by
 subst hhi
 obtain ⟨hl, a', c', hv, h1, h2, h3⟩ := h
 cases hv
 obtain ⟨u, hu⟩ : ∃ u, u = lo + m := ⟨_, rfl⟩
 rw [← hu]
 have hrun : ∀ W, (Instr.slice T (.slice a n c) (some (.int .i64 (lo : Int))) (some (.int .i64 (u : Int))) none).run P W = .ok (.slice (if c = lo then a else a.map (·.add (lo * 1))) m (c - lo)) W := fun W => by
  have hb := run_sliceBound (P := P) W .i64 (u : Int) c .sliceAcap (by omega) (by omega)
  have hb2 := run_sliceBound (P := P) W .i64 (lo : Int) u .sliceB (by omega) (by omega)
  have hml : u - lo = m := by omega
  unfold Instr.slice Instr.sliceBounds
  simp [run_underlying ht, hb, hb2, hk, Result.andThen, hml]
 have hlx : ((xs.drop lo).take m).length = m * 1 := by rw [List.length_take, List.length_drop]; omega
 rcases h3 with ⟨h3, h4⟩ | ⟨b, off, rfl, rfl, h3⟩
 ·obtain rfl : m = 0 := by omega
  exact ⟨_, none, hrun, ⟨hlx, _, _, rfl, Nat.zero_le _, by omega, .inl ⟨rfl, rfl⟩⟩, .inl rfl⟩
 ·by_cases hc : c = lo
  ·obtain rfl : m = 0 := by omega
   exact ⟨_, none, hrun, ⟨hlx, _, _, rfl, Nat.zero_le _, by omega, .inl ⟨rfl, rfl⟩⟩, .inl rfl⟩
  ·refine ⟨_, some b, hrun, ⟨hlx, _, _, rfl, by omega, by omega, .inr ⟨b, off + lo, ?_, rfl, fun i hi => ?_⟩⟩, .inr rfl⟩
   ·rw [if_neg hc]; simp [Addr.add]
   ·rw [Nat.add_assoc, h3 (lo + i) (by omega), List.getElem?_take_of_lt (by omega), List.getElem?_drop]
theorem byteCells_part (bs : List UInt8) (lo m : Nat) : ((Lib.byteCells bs).drop lo).take m = Lib.byteCells ((bs.drop lo).take m) := by
 simp [Lib.byteCells, List.map_take, List.map_drop]
theorem p_stops {w : World} {q : Nat} {bs : List UInt8} {pos : Nat} {fa sp : Int} {v : Value} {bo : Option Nat} (h : TP 187 w q bs pos fa sp v bo) (er : Int) {m : Nat} (hm : m ≤ bs.length) :
  Calls Tryz.prog 128 #[.pointer (some ⟨q, 0, none⟩), .int .i64 er, .int .i64 (m : Int)] w fun e w' => e = .returned (.tuple #[]) ∧ TP 187 w' q bs m er (m : Int) v bo ∧ Keep [q] w w' := by
 obtain ⟨c0, c1, c2, c3, f0, f1, f2, f3⟩ := cells4 h.blk
 have H := hyd h
 clear h
 go_enter Tryz.func128, Tryz.ntmps128
 go_wp2_with fail
 refine bodyPost_end (results_none rfl _ _ _) rfl ?_
 have hk : Keep [q] w (((w.setCell ⟨q, 2, none⟩ (.int .i64 er)).setCell ⟨q, 3, none⟩ (.int .i64 (m : Int))).setCell ⟨q, 1, none⟩ (.int .i64 (m : Int))) := (((Keep.refl [q] w).setCell (.inl (by simp)) _).setCell (.inl (by simp)) _).setCell (.inl (by simp)) _
 refine ⟨rfl, H.o.turn hk hm ?_, hk⟩
 have := heap_setCell_at (i := 1) (heap_setCell_at (i := 3) (heap_setCell_at (i := 2) H.o.blk (.int .i64 er)) (.int .i64 (m : Int))) (.int .i64 (m : Int))
 simpa using this
theorem p_runs {w : World} {q : Nat} {bs : List UInt8} {pos : Nat} {fa sp : Int} {v : Value} {bo : Option Nat} (h : TP 187 w q bs pos fa sp v bo) :
  Calls Tryz.prog 129 #[.pointer (some ⟨q, 0, none⟩)] w fun e w' => e = .returned (.bool (decide (fa = 0))) ∧ w = w' := by
 obtain ⟨c0, c1, c2, c3, f0, f1, f2, f3⟩ := cells4 h.blk
 clear h
 by_cases hf : fa = 0
 ·subst hf
  go_enter Tryz.func129, Tryz.ntmps129
  go_wp2_with fail
  go_ret
  exact ⟨by simp, rfl⟩
 ·have hb : (fa == 0) = false := beq_eq_false_iff_ne.2 hf
  go_enter Tryz.func129, Tryz.ntmps129
  go_wp2_with fail
  go_ret
  exact ⟨by simp [hf], rfl⟩
theorem p_pos {w : World} {q : Nat} {bs : List UInt8} {pos : Nat} {fa sp : Int} {v : Value} {bo : Option Nat} (h : TP 187 w q bs pos fa sp v bo) :
  Calls Tryz.prog 127 #[.pointer (some ⟨q, 0, none⟩)] w fun e w' => e = .returned (.int .i64 (pos : Int)) ∧ w = w' := by
 obtain ⟨c0, c1, c2, c3, f0, f1, f2, f3⟩ := cells4 h.blk
 clear h
 go_enter Tryz.func127, Tryz.ntmps127
 go_wp2_with fail
 go_ret
 exact ⟨rfl, rfl⟩
theorem p_fault {w : World} {q : Nat} {bs : List UInt8} {pos : Nat} {fa sp : Int} {v : Value} {bo : Option Nat} (h : TP 187 w q bs pos fa sp v bo) :
  Calls Tryz.prog 98 #[.pointer (some ⟨q, 0, none⟩)] w fun e w' => e = .returned (.tuple #[.int .i64 fa, .int .i64 sp]) ∧ Keep [] w w' := by
 obtain ⟨c0, c1, c2, c3, f0, f1, f2, f3⟩ := cells4 h.blk
 clear h
 go_enter Tryz.func98, Tryz.ntmps98
 go_wp2_with fail
 go_quiet (fail)
 go_wp2_with fail
 go_ret2
 exact ⟨rfl, (Keep.refl [] w).drewN _⟩
theorem p_rest {w : World} {q : Nat} {bs : List UInt8} {pos : Nat} {fa sp : Int} {v : Value} {bo : Option Nat} (h : TP 187 w q bs pos fa sp v bo) :
  Calls Tryz.prog 131 #[.pointer (some ⟨q, 0, none⟩)] w fun e w' => e = .returned (.int .i64 ((bs.length : Int) - (pos : Int))) ∧ Keep [] w w' := by
 obtain ⟨c0, c1, c2, c3, f0, f1, f2, f3⟩ := cells4 h.blk
 obtain ⟨-, a, c, rfl, -, -, -⟩ := h.rd
 have q1 := h.le
 have q2 := h.sz
 have hw : IntKind.i64.wrap ((bs.length : Int) - (pos : Int)) = (bs.length : Int) - (pos : Int) := IntWalk.i64_in _ (by omega)
 clear h
 go_enter Tryz.func131, Tryz.ntmps131
 go_wp2_with fail
 go_quiet (fail)
 go_wp2_with fail
 go_ret
 exact ⟨rfl, (Keep.refl [] w).drewN _⟩
def CutP (T : TypeId) (w : World) (q : Nat) (bs : List UInt8) (pos n fr : Nat) (v : Value) (bo : Option Nat) (e : Ending) (w' : World) : Prop :=
 (bs.length - pos < n ∧ e = .returned (.tuple #[.slice none 0 0, .bool false]) ∧ TP T w' q bs fr 3 (fr : Int) v bo ∧ Keep [q] w w') ∨
 (n ≤ bs.length - pos ∧ ∃ sv so, e = .returned (.tuple #[sv, .bool true]) ∧ TP T w' q bs (pos + n) 0 0 v bo ∧ Keep [q] w w' ∧ Rd w' 1 sv n (Lib.byteCells ((bs.drop pos).take n)) so ∧ ∀ b, so = some b → bo = some b)
theorem p_cut {w : World} {q : Nat} {bs : List UInt8} {pos n fr : Nat} {v : Value} {bo : Option Nat} (h : TP 187 w q bs pos 0 0 v bo) (hn : n ≤ 1000000000) (hfr : fr ≤ bs.length) :
  Calls Tryz.prog 130 #[.pointer (some ⟨q, 0, none⟩), .int .i64 (n : Int), .int .i64 (fr : Int)] w (CutP 187 w q bs pos n fr v bo) := by
 obtain ⟨c0, c1, c2, c3, f0, f1, f2, f3⟩ := cells4 h.blk
 obtain ⟨-, a, c, rfl, -, -, -⟩ := id h.rd
 have q1 := h.le
 have q2 := h.sz
 have hw : IntKind.i64.wrap ((bs.length : Int) - (pos : Int)) = (bs.length : Int) - (pos : Int) := IntWalk.i64_in _ (by omega)
 by_cases hlt : bs.length - pos < n
 ·have hg : ((bs.length : Int) - (pos : Int) < (n : Int)) := by omega
  have hst := fun k => p_stops (h.keep0 ((Keep.refl [] w).drewN k)) 3 hfr
  have HS := hyd hst
  have HL := hyd hlt
  clear h hst hlt
  go_enter Tryz.func130, Tryz.ntmps130
  go_wp2_with fail
  go_quiet (fail)
  go_wp2_with fail
  refine (HS.o _).mono ?_
  rintro e w1 ⟨rfl, h1, h2⟩
  have H1 := hyd h1
  have H2 := hyd h2
  clear h1 h2
  go_wp2_with fail
  go_ret2
  exact .inl ⟨HL.o, rfl, H1.o, ((Keep.refl [q] w).drewN _).trans H2.o (fun _ h => .inl h)⟩
 ·obtain ⟨i0, hi0, hz0, hz1, hz2⟩ := info_parts byte_info
  have hg : ¬ ((bs.length : Int) - (pos : Int) < (n : Int)) := by omega
  have hle : n ≤ bs.length - pos := by omega
  have hw2 : IntKind.i64.wrap ((pos : Int) + (n : Int)) = (pos : Int) + (n : Int) := IntWalk.i64_in _ (by omega)
  obtain ⟨sv, so, hrun, hrd, hso⟩ := rd_slice (P := Tryz.prog) (T := 35) Tryz.underlying35 (fun w => by simp [sizeOf, typeInfo, hi0, hz1]) h.rd (lo := pos) (m := n) (by omega) (hi := (pos : Int) + (n : Int)) (by omega)
  rw [byteCells_part] at hrd
  have H := hyd h
  have HR := hyd hrd
  have HSO := hyd hso
  clear h hrd hso hlt hi0 hz0 hz1 hz2
  go_enter Tryz.func130, Tryz.ntmps130
  go_wp2_with fail
  go_quiet (fail)
  generalize nq = n8 at *
  go_wp2_with fail
  go_quiet (fail)
  go_wp2_with fail
  go_ret2
  obtain ⟨k9, hk9⟩ : ∃ k9, k9 = n8 + nq := ⟨_, rfl⟩
  rw [← hk9]
  have hk : Keep [q] w ((w.drewN k9).setCell ⟨q, 1, none⟩ (.int .i64 ((pos : Int) + (n : Int)))) := ((Keep.refl [q] w).drewN _).setCell (.inl (by simp)) _
  have hb := heap_setCell_at (w := w.drewN k9) (i := 1) H.o.blk (.int .i64 ((pos : Int) + (n : Int)))
  refine .inr ⟨hle, sv, so, rfl, H.o.turn hk (by omega) (by simpa using hb), hk, HR.o.keep hk (fun b hb hm => ?_), fun b hb => ?_⟩
  ·rcases HSO.o with h1 | h1
   ·rw [h1] at hb; cases hb
   ·exact H.o.ne b (h1 ▸ hb) (by simpa using hm)
  ·rcases HSO.o with h1 | h1
   ·rw [h1] at hb; cases hb
   ·exact h1 ▸ hb
theorem oNum_none {more : Bool} {l : List UInt8} (h : pNum more l = none) : oNum more (some l) = (0, false, none) := by simp [oNum, h]
theorem oNum_some {more is : Bool} {l r : List UInt8} {n : Nat} (h : pNum more l = some (n, is, r)) : oNum more (some l) = (n, is, some r) := by simp [oNum, h]
theorem rd_cell {w : World} {a : Option Addr} {n c : Nat} {bs : List UInt8} {o : Option Nat} (h : Rd w 1 (.slice a n c) n (Lib.byteCells bs) o) {i : Nat} (hi : i < n) (hb : i < bs.length) :
  ∃ b off, a = some ⟨b, off, none⟩ ∧ o = some b ∧ w.cell? ⟨b, off + i, none⟩ = some (.int .u8 (bs[i].toNat : Int)) := by
 obtain ⟨hl, a', c', hv, _, _, h3⟩ := h
 cases hv
 rcases h3 with ⟨h3, _⟩ | ⟨b, off, rfl, rfl, h3⟩
 ·omega
 ·refine ⟨b, off, rfl, rfl, ?_⟩
  rw [h3 i (by omega)]
  simp [Lib.byteCells, List.getElem?_eq_getElem hb]
theorem p_number {w : World} {q : Nat} {bs : List UInt8} {v : Value} {bo : Option Nat} {st : Option (List UInt8)} (h : TSt 187 w q bs v bo st) (more : Bool) :
  Calls Tryz.prog 126 #[.pointer (some ⟨q, 0, none⟩), .bool more] w fun e w' => e = .returned (.tuple #[.int .u64 ((oNum more st).1 : Int), .bool (oNum more st).2.1]) ∧ TSt 187 w' q bs v bo (oNum more st).2.2 ∧ Keep [q] w w' := by
 obtain ⟨pos, fa, sp, ht, ⟨rfl, hfa, hf1, hf2⟩ | ⟨rfl, hsp, rfl⟩⟩ := h
 ·have hr := p_runs ht
  rw [show decide (fa = 0) = false from by simp [hfa]] at hr
  have HR := hyd hr
  have HT := hyd ht
  have HF := hyd (And.intro hfa (And.intro hf1 hf2))
  clear hr ht hfa hf1 hf2
  go_enter Tryz.func126, Tryz.ntmps126
  go_wp2_with fail
  refine HR.o.mono ?_
  rintro e w1 ⟨rfl, rfl⟩
  go_wp2_with fail
  go_ret2
  exact ⟨rfl, ⟨pos, fa, sp, HT.o, .inl ⟨rfl, HF.o⟩⟩, Keep.refl _ _⟩
 ·subst hsp
  have hr := p_runs ht
  rw [show decide ((0 : Int) = 0) = true from rfl] at hr
  have hle := ht.le
  have hsz := ht.sz
  obtain ⟨c0, c1, c2, c3, f0, f1, f2, f3⟩ := cells4 ht.blk
  have hcut := p_cut ht (n := 1) (by omega) hle
  obtain ⟨R, hR⟩ : ∃ R, R = oNum more (some (bs.drop pos)) := ⟨_, rfl⟩
  rw [← hR]
  have HRR := hyd hR
  clear hR
  have HR := hyd hr
  have HT := hyd ht
  have HC := hyd hcut
  clear hr ht hcut
  go_enter Tryz.func126, Tryz.ntmps126
  go_wp2_with fail
  refine HR.o.mono ?_
  rintro e w1 ⟨rfl, rfl⟩
  go_wp2_with fail
  refine HC.o.mono ?_
  rintro e w1 (⟨hn, rfl, htp, hk⟩ | ⟨hn, sv, so, rfl, htp, hk, hrd, hso⟩)
  ·have hz : R = (0, false, none) := HRR.o.trans (oNum_none (by rw [List.drop_of_length_le (by omega)]; rfl))
   have H := hyd (And.intro htp hk)
   clear htp hk HC HT
   go_wp2_with fail
   go_ret2
   try rw [hz]
   exact ⟨rfl, ⟨pos, 3, _, H.o.1, .inl ⟨rfl, by omega, by omega, by omega⟩⟩, H.o.2⟩
  ·obtain ⟨ch, r, hl⟩ : ∃ ch r, bs.drop pos = ch :: r := by
    cases hd : bs.drop pos with
    | nil => have := congrArg List.length hd; rw [List.length_drop] at this; simp at this; omega
    | cons ch r => exact ⟨ch, r, rfl⟩
   have hrl : r.length = bs.length - (pos + 1) := by have := congrArg List.length hl; rw [List.length_drop] at this; simp at this; omega
   have hr2 : bs.drop (pos + 1) = r := by rw [← List.drop_drop, hl]; rfl
   rw [hl] at hrd
   have HRL := hyd (hl ▸ HRR.o)
   have hrd' := hrd
   obtain ⟨-, sa, sc, rfl, -, -, -⟩ := id hrd
   obtain ⟨sb, soff, rfl, -, hcell⟩ := rd_cell (bs := [ch]) (by simpa using hrd) (i := 0) (by omega) (by simp)
   simp only [List.getElem_cons_zero, Nat.add_zero] at hcell
   obtain ⟨kk, hkk⟩ : ∃ k, k = kOf more ch := ⟨_, rfl⟩
   obtain ⟨is, his⟩ : ∃ b, b = (more && decide (128 ≤ ch.toNat)) := ⟨_, rfl⟩
   have hp := pNum_cons more ch r
   rw [← hkk, ← his] at hp
   have hch := ch.toNat_lt
   have hkk2 : kk < 256 := by rw [hkk]; unfold kOf; split <;> omega
   have H1 := hyd htp
   have HK1 := hyd hk
   have HP := hyd hp
   have HL := hyd (And.intro hrl hr2)
   have HKI := hyd (And.intro hkk his)
   clear htp hk hp hrl hr2 hkk his hrd hrd' HC HT hl hso
   go_upto_region 8 with fail
   rename_i K_out a_out K_in a_in
   have hcut : ∀ a' w', CutF 80 (fun f wx => f 4 = .int .u64 0 ∧ f 9 = .int .u8 (kk : Int) ∧ f 5 = .bool is ∧ f 0 = .pointer (some ⟨q, 0, none⟩) ∧ f 6 = .int .i64 (pos : Int) ∧ w1 = wx) a' w' → K_out a' w' := by
    intro a' w' hc
    refine a_out _ _ ?_
    clear a_out a_in K_in
    obtain ⟨f, rfl, h4, h9, h5, h0, h6, rfl⟩ := hc.lit
    rw [show ((List.range 80).map f).toArray = #[f 0, f 1, f 2, f 3, f 4, f 5, f 6, f 7, f 8, f 9, f 10, f 11, f 12, f 13, f 14, f 15, f 16, f 17, f 18, f 19, f 20, f 21, f 22, f 23, f 24, f 25, f 26, f 27, f 28, f 29, f 30, f 31, f 32, f 33, f 34, f 35, f 36, f 37, f 38, f 39, f 40, f 41, f 42, f 43, f 44, f 45, f 46, f 47, f 48, f 49, f 50, f 51, f 52, f 53, f 54, f 55, f 56, f 57, f 58, f 59, f 60, f 61, f 62, f 63, f 64, f 65, f 66, f 67, f 68, f 69, f 70, f 71, f 72, f 73, f 74, f 75, f 76, f 77, f 78, f 79] from rfl]
    rw [h4, h9, h5, h0, h6]
    clear hc h4 h9 h5 h0 h6 hcell HKI
    by_cases h8 : 8 < kk
    ·have h8' : (8 : Int) < (kk : Int) := by omega
     have hz : R = (0, false, none) := HRL.o.trans (oNum_none (by rw [HP.o, if_pos (.inl h8)]))
     have hst := p_stops H1.o 10 (m := pos) (by omega)
     have HS := hyd hst
     clear hst
     go_wp2_with fail
     refine HS.o.mono ?_
     rintro e w2 ⟨rfl, h1, h2⟩
     have H2 := hyd (And.intro h1 (HK1.o.trans h2 (fun _ h => .inl h)))
     clear h1 h2 HK1 H1 HS
     go_wp2_with fail
     go_ret2
     try rw [hz]
     exact ⟨rfl, ⟨pos, 10, _, H2.o.1, .inl ⟨rfl, by omega, by omega, by omega⟩⟩, H2.o.2⟩
    ·have h8' : ¬ (8 : Int) < (kk : Int) := by omega
     have hcut := p_cut H1.o (n := kk) (by omega) hle
     have HC2 := hyd hcut
     clear hcut
     go_wp2_with fail
     refine HC2.o.mono ?_
     rintro e w2 (⟨hn2, rfl, htp, hk⟩ | ⟨hn2, sv, so2, rfl, htp, hk, hrd, hso2⟩)
     ·have hz : R = (0, false, none) := HRL.o.trans (oNum_none (by rw [HP.o, if_pos (.inr (.inl (by have := HL.o.1; omega)))]))
      have H2 := hyd (And.intro htp (HK1.o.trans hk (fun _ h => .inl h)))
      clear htp hk HC2 HK1 H1
      go_wp2_with fail
      go_ret2
      try rw [hz]
      exact ⟨rfl, ⟨pos, 3, _, H2.o.1, .inl ⟨rfl, by omega, by omega, by omega⟩⟩, H2.o.2⟩
     ·rw [HL.o.2] at hrd
      have hkr : kk ≤ r.length := by have := HL.o.1; omega
      have htk : (r.take kk).length = kk := by rw [List.length_take]; omega
      obtain ⟨-, sa2, sc2, rfl, hq1, hq2, -⟩ := id hrd
      unfold maxLen at hq2
      by_cases hhd : (r.take kk).head? = some 0
      ·have hz : R = (0, false, none) := HRL.o.trans (oNum_none (by rw [HP.o, if_pos (.inr (.inr hhd))]))
       have hpos : 0 < kk := by
        rcases Nat.eq_zero_or_pos kk with h | h
        ·rw [h] at hhd; simp at hhd
        ·exact h
       obtain ⟨sb2, soff2, rfl, -, hcell⟩ := rd_cell hrd (i := 0) hpos (by omega)
       rw [List.head?_eq_getElem?, List.getElem?_eq_getElem (by omega)] at hhd
       simp only [Option.some.injEq] at hhd
       rw [hhd] at hcell
       simp only [Nat.add_zero] at hcell
       have hcell2 : w2.cell? ⟨sb2, soff2, none⟩ = some (.int .u8 0) := hcell
       have hpos' : (0 : Int) < (kk : Int) := by omega
       have hst := p_stops htp 10 (m := pos) (by omega)
       have HS := hyd hst
       have H2 := hyd (HK1.o.trans hk (fun _ h => .inl h))
       clear hst htp hk hrd hcell hhd HC2
       go_wp2_with fail
       refine HS.o.mono ?_
       rintro e w3 ⟨rfl, h1, h2⟩
       have H3 := hyd (And.intro h1 (H2.o.trans h2 (fun _ h => .inl h)))
       clear h1 h2 HK1 H1 HS
       go_wp2_with fail
       go_ret2
       try rw [hz]
       exact ⟨rfl, ⟨pos, 10, _, H3.o.1, .inl ⟨rfl, by omega, by omega, by omega⟩⟩, H3.o.2⟩
      ·have hz : R = (valL (r.take kk), is, some (r.drop kk)) := HRL.o.trans (oNum_some (by rw [HP.o, if_neg (by simp only [not_or]; exact ⟨by omega, by omega, hhd⟩)]))
       have hdr : bs.drop (pos + 1 + kk) = r.drop kk := by rw [← HL.o.2, List.drop_drop]
       have H2 := hyd (And.intro htp (HK1.o.trans hk (fun _ h => .inl h)))
       have HRD := hyd hrd
       have HDR := hyd hdr
       have HTK := hyd htk
       obtain ⟨p, hp⟩ : ∃ p, p = r.take kk := ⟨_, rfl⟩
       rw [← hp] at HRD HTK hhd hz
       have h1 : ∀ i, i < kk → ∃ u : Nat, u < 256 ∧ p[i]? = some (UInt8.ofNat u) := fun i hi => by
        have h4 : i < p.length := by have := HTK.o; omega
        refine ⟨p[i].toNat, p[i].toNat_lt, ?_⟩
        rw [List.getElem?_eq_getElem h4, UInt8.ofNat_toNat]
       clear h1 hp
       rcases Nat.eq_zero_or_pos kk with hk0 | hpos
       ·subst hk0
        have hp0 : p = [] := List.eq_nil_of_length_eq_zero HTK.o
        subst hp0
        clear htp hk hrd hdr htk HC2 HRD HTK hhd
        go_wp2_with fail
        go_loop [4, 68] (fun n i => n = .int .u64 0 ∧ i = .int .i64 0) (fun _ _ => 0)
        case atStart => exact ⟨rfl, rfl⟩
        case round =>
         obtain ⟨rfl, rfl⟩ := hrel
         go_wp2_with fail
         go_ret2
         try rw [hz]
         exact ⟨rfl, ⟨_, 0, 0, H2.o.1, .inr ⟨rfl, rfl, congrArg some HDR.o.symm⟩⟩, H2.o.2⟩
       ·obtain ⟨sb2, soff2, rfl, -, hcell0⟩ := rd_cell HRD.o (i := 0) hpos (by have := HTK.o; omega)
        have hne : (p[0]'(by have := HTK.o; omega)).toNat ≠ 0 := fun h => by
         apply hhd
         rw [List.head?_eq_getElem?, List.getElem?_eq_getElem (by have := HTK.o; omega)]
         congr 1
         exact UInt8.toNat.inj h
        have hlt256 := (p[0]'(by have := HTK.o; omega)).toNat_lt
        generalize (p[0]'(by have := HTK.o; omega)).toNat = u0 at *
        simp only [Nat.add_zero] at hcell0
        have hpos' : (0 : Int) < (kk : Int) := by omega
        have hne' : ((u0 : Int) == 0) = false := beq_eq_false_iff_ne.2 (by omega)
        clear htp hk hrd hdr htk HC2 hhd hne
        go_wp2_with fail
        clear hcell0 hne'
        go_loop [4, 68] (fun n i => ∃ j : Nat, j ≤ kk ∧ n = .int .u64 (valL (p.take j) : Int) ∧ i = .int .i64 (j : Int)) (fun _ i => kk - (intOf i).toNat)
        case atStart => exact ⟨0, Nat.zero_le _, rfl, rfl⟩
        case round =>
         obtain ⟨j, hj, rfl, rfl⟩ := hrel
         by_cases hjl : j < kk
         ·obtain ⟨sb3, soff3, e1, -, hcj⟩ := rd_cell HRD.o (i := j) hjl (by have := HTK.o; omega)
          cases e1
          have hv := valL_take (l := p) (i := j) (by have := HTK.o; omega)
          have hvl := valL_take_lt (l := p) (i := j) (by omega)
          have hc256 := (p[j]'(by have := HTK.o; omega)).toNat_lt
          generalize (p[j]'(by have := HTK.o; omega)).toNat = cj at *
          obtain ⟨nj, hnj⟩ : ∃ n, n = valL (p.take j) := ⟨_, rfl⟩
          rw [← hnj] at hv hvl
          rw [← hnj]
          have hor := or_byte nj cj hvl hc256
          rw [Int.natCast_mul] at hor
          have hor2 : bits BinOp.or IntKind.u64 ((nj : Int) * 256) (cj : Int) = ((nj * 256 + cj : Nat) : Int) := hor
          have HOR := hyd hor2
          clear hor hor2
          have HV := hyd hv
          have hw : IntKind.u64.wrap ((nj : Int) * 256) = ((nj * 256 : Nat) : Int) := (IntWalk.u64_in _ (by omega)).trans (by omega)
          have j0 : (0 : Int) ≤ (j : Int) := by omega
          have j1 : (j : Int) < (kk : Int) := by omega
          clear hv hnj
          go_wp2_with fail
          go_round
          case rel => exact ⟨j + 1, by omega, by rw [HV.o, HOR.o], by go_num⟩
          case measure => simp [intOf]; omega
         ·obtain rfl : j = kk := by omega
          go_wp2_with fail
          go_ret2
          try rw [hz]
          exact ⟨by rw [List.take_of_length_le (by have := HTK.o; omega)]; rfl, ⟨_, 0, 0, H2.o.1, .inr ⟨rfl, rfl, congrArg some HDR.o.symm⟩⟩, H2.o.2⟩
   have HCUT := hyd hcut
   clear hcut a_out
   obtain ⟨hkk, his⟩ := HKI.o
   unfold kOf at hkk
   cases more with
   | false =>
    simp at hkk his
    subst hkk his
    go_wp2_with fail
    exact HCUT.o _ _ (CutF.mk rfl ⟨rfl, rfl, rfl, rfl, rfl, rfl⟩)
   | true =>
    by_cases h128 : 128 ≤ ch.toNat
    ·simp [h128] at hkk his
     subst his
     have hge : (128 : Int) ≤ (ch.toNat : Int) := by omega
     have hu : IntKind.u8.wrap ((ch.toNat : Int) - 128) = (kk : Int) := (IntWalk.u8_in _ (by omega)).trans (by omega)
     clear hkk
     go_wp2_with fail
     exact HCUT.o _ _ (CutF.mk rfl ⟨rfl, rfl, rfl, rfl, rfl, rfl⟩)
    ·simp [h128] at hkk his
     subst his hkk
     have hge : ¬ (128 : Int) ≤ (ch.toNat : Int) := by omega
     go_wp2_with fail
     exact HCUT.o _ _ (CutF.mk rfl ⟨rfl, rfl, rfl, rfl, rfl, rfl⟩)
theorem p_tnum {w : World} {q : Nat} {bs : List UInt8} {v : Value} {bo : Option Nat} {st : Option (List UInt8)} (h : TSt 187 w q bs v bo st) :
  Calls Tryz.prog 97 #[.pointer (some ⟨q, 0, none⟩)] w fun e w' => e = .returned (.int .u64 ((oNum false st).1 : Int)) ∧ TSt 187 w' q bs v bo (oNum false st).2.2 ∧ Keep [q] w w' := by
 have HC := hyd (p_number h false)
 clear h
 generalize oNum false st = R at *
 go_enter Tryz.func97, Tryz.ntmps97
 go_wp2_with fail
 refine HC.o.mono ?_
 rintro e w1 ⟨rfl, h⟩
 have H := hyd h
 clear h HC
 go_wp2_with fail
 go_ret
 exact ⟨rfl, H.o⟩
theorem oInt_num (st : Option (List UInt8)) : oInt st = if (oNum true st).2.2 = none ∨ 9223372036854775808 ≤ (oNum true st).1 then (0, none) else (if (oNum true st).2.1 then -1 - ((oNum true st).1 : Int) else ((oNum true st).1 : Int), (oNum true st).2.2) := by
 cases st with
 | none => simp [oInt, oNum]
 | some l =>
  unfold oInt oNum
  simp only [Option.bind_some, pInt]
  cases hp : pNum true l with
  | none => simp
  | some x =>
   obtain ⟨n, is, r⟩ := x
   by_cases hn : 9223372036854775808 ≤ n
   ·simp [hn]
   ·simp [hn]
theorem oNum_zero {more : Bool} {st : Option (List UInt8)} (h : (oNum more st).2.2 = none) : oNum more st = (0, false, none) := by
 unfold oNum at h ⊢
 split
 ·rfl
 ·rename_i hh; rw [hh] at h; simp at h
theorem p_tint {w : World} {q : Nat} {bs : List UInt8} {v : Value} {bo : Option Nat} {st : Option (List UInt8)} (h : TSt 187 w q bs v bo st) :
  Calls Tryz.prog 100 #[.pointer (some ⟨q, 0, none⟩)] w fun e w' => e = .returned (.int .i64 (oInt st).1) ∧ TSt 187 w' q bs v bo (oInt st).2 ∧ Keep [q] w w' := by
 have hnum := p_number h true
 have hlt := oNum_lt true st
 have hz := fun h => oNum_zero (more := true) (st := st) h
 rw [oInt_num st]
 obtain ⟨pos, fa, sp, ht, -⟩ := h
 have hpos := p_pos ht
 have hle := ht.le
 have hsz := ht.sz
 have HP := hyd hpos
 have HC := hyd hnum
 have HZ := hyd hz
 clear ht hnum hpos hz
 generalize oNum true st = R at *
 obtain ⟨n, is, st'⟩ := R
 simp only at *
 by_cases hn : 9223372036854775808 ≤ n
 ·have hne : st' ≠ none := fun h => by have := HZ.o h; simp at this; omega
  rw [if_pos (.inr hn)]
  have hw : IntKind.i64.wrap (n : Int) = (n : Int) - 18446744073709551616 := by rw [IntKind.wrap_i64]; omega
  have hneg : (n : Int) - 18446744073709551616 < 0 := by omega
  go_enter Tryz.func100, Tryz.ntmps100
  go_wp2_with fail
  refine HP.o.mono ?_
  rintro e w1 ⟨rfl, rfl⟩
  go_wp2_with fail
  refine HC.o.mono ?_
  rintro e w1 ⟨rfl, ⟨pos', fa', sp', ht', -⟩, hk⟩
  have hst := p_stops ht' 11 hle
  have HS := hyd hst
  have HK := hyd hk
  clear ht' hst hk
  go_wp2_with fail
  refine HS.o.mono ?_
  rintro e w2 ⟨rfl, h1, h2⟩
  have H := hyd (And.intro h1 (HK.o.trans h2 (fun _ h => .inl h)))
  clear h1 h2
  go_wp2_with fail
  go_ret
  exact ⟨rfl, ⟨pos, 11, _, H.o.1, .inl ⟨rfl, by omega, by omega, by omega⟩⟩, H.o.2⟩
 ·have hw : IntKind.i64.wrap (n : Int) = (n : Int) := IntWalk.i64_in _ (by omega)
  have hnn : ¬ (n : Int) < 0 := by omega
  by_cases hnone : st' = none
  ·have := HZ.o hnone
   simp at this
   obtain ⟨rfl, rfl, rfl⟩ := this
   rw [if_pos (.inl rfl)]
   clear HZ
   go_enter Tryz.func100, Tryz.ntmps100
   go_wp2_with fail
   refine HP.o.mono ?_
   rintro e w1 ⟨rfl, rfl⟩
   go_wp2_with fail
   refine HC.o.mono ?_
   rintro e w1 ⟨rfl, h1⟩
   have H := hyd h1
   clear h1
   go_wp2_with fail
   go_ret
   exact ⟨rfl, H.o⟩
  ·rw [if_neg (by simp only [not_or]; exact ⟨hnone, by omega⟩)]
   clear HZ hnone
   cases is with
   | false =>
    go_enter Tryz.func100, Tryz.ntmps100
    go_wp2_with fail
    refine HP.o.mono ?_
    rintro e w1 ⟨rfl, rfl⟩
    go_wp2_with fail
    refine HC.o.mono ?_
    rintro e w1 ⟨rfl, h1⟩
    have H := hyd h1
    clear h1
    go_wp2_with fail
    go_ret
    exact ⟨rfl, H.o⟩
   | true =>
    have hx := bits_not (n : Int) (by omega) (by omega)
    go_enter Tryz.func100, Tryz.ntmps100
    go_wp2_with fail
    refine HP.o.mono ?_
    rintro e w1 ⟨rfl, rfl⟩
    go_wp2_with fail
    refine HC.o.mono ?_
    rintro e w1 ⟨rfl, h1⟩
    have H := hyd h1
    clear h1
    go_wp2_with fail
    go_ret
    exact ⟨by rw [show -1 - (n : Int) = -(n : Int) - 1 from by omega]; rfl, H.o⟩
theorem oStr_num {st : Option (List UInt8)} {N : Nat} (h : ∀ l, st = some l → l.length ≤ N) : oStr st = match (oNum false st).2.2 with
  | none => ([], none)
  | some r => if N < (oNum false st).1 ∨ r.length < (oNum false st).1 then ([], none) else (r.take (oNum false st).1, some (r.drop (oNum false st).1)) := by
 cases st with
 | none => simp [oStr, oNum]
 | some l =>
  unfold oStr oNum
  simp only [Option.bind_some, pStr]
  cases hp : pNum false l with
  | none => simp
  | some x =>
   obtain ⟨n, is, r⟩ := x
   simp only
   by_cases hn : r.length < n
   ·simp [hn]
   ·have : r.length ≤ l.length := by rw [(pNum_inv hp).1]; simp
    have h3 := h l rfl
    rw [if_neg hn, if_neg (by omega)]
theorem p_tstr {w : World} {q : Nat} {bs : List UInt8} {v : Value} {bo : Option Nat} {st : Option (List UInt8)} (h : TSt 187 w q bs v bo st) :
  Calls Tryz.prog 101 #[.pointer (some ⟨q, 0, none⟩), .int .i64 (bs.length : Int)] w fun e w' => e = .returned (.string ⟨(oStr st).1.toArray⟩) ∧ TSt 187 w' q bs v bo (oStr st).2 ∧ Keep [q] w w' := by
 have hnum := p_tnum h
 have hlt := oNum_lt false st
 have hz := fun h => oNum_zero (more := false) (st := st) h
 have hR := oStr_num (N := bs.length) (st := st) (by
   obtain ⟨pos, fa, sp, ht, ⟨rfl, -⟩ | ⟨-, -, rfl⟩⟩ := h
   · intro l hl; cases hl
   · intro l hl; cases hl; rw [List.length_drop]; omega)
 generalize oStr st = R2 at *
 obtain ⟨pos, fa, sp, ht, -⟩ := h
 have hpos := p_pos ht
 have hle := ht.le
 have hsz := ht.sz
 have HP := hyd hpos
 have HC := hyd hnum
 have HZ := hyd hz
 have HR2 := hyd hR
 clear ht hnum hpos hz hR
 generalize oNum false st = R at *
 obtain ⟨n, is, st'⟩ := R
 simp only at *
 have hl0 : (0 : Int) ≤ (bs.length : Int) := by omega
 have hm : IntKind.u64.wrap (bs.length : Int) = (bs.length : Int) := IntWalk.u64_in _ (by omega)
 go_enter Tryz.func101, Tryz.ntmps101
 go_wp2_with fail
 refine HP.o.mono ?_
 rintro e w1 ⟨rfl, rfl⟩
 go_wp2_with fail
 refine HC.o.mono ?_
 rintro e w1 ⟨rfl, ⟨pos', fa', sp', ht', hst'⟩, hk⟩
 have hru := p_runs ht'
 rcases hst' with ⟨rfl, hfa, hf1, hf2⟩ | ⟨rfl, rfl, rfl⟩
 ·rw [show decide (fa' = 0) = false from by simp [hfa]] at hru
  have HR := hyd hru
  have H := hyd (And.intro (show TSt 187 w1 q bs v bo none from ⟨pos', fa', sp', ht', .inl ⟨rfl, hfa, hf1, hf2⟩⟩) hk)
  clear hru ht' hk hfa hf1 hf2
  go_wp2_with fail
  refine HR.o.mono ?_
  rintro e w2 ⟨rfl, rfl⟩
  have h2 : R2 = ([], none) := HR2.o
  subst h2
  go_wp2_with fail
  go_ret
  exact ⟨rfl, H.o⟩
 ·rw [show decide ((0 : Int) = 0) = true from rfl] at hru
  have HR := hyd hru
  have HT := hyd ht'
  have HK := hyd hk
  have hle' := ht'.le
  clear hru ht' hk
  have hR3 : R2 = if bs.length < n ∨ (bs.drop pos').length < n then ([], none) else ((bs.drop pos').take n, some ((bs.drop pos').drop n)) := HR2.o
  have HR3 := hyd hR3
  clear hR3 HR2
  go_wp2_with fail
  refine HR.o.mono ?_
  rintro e w2 ⟨rfl, rfl⟩
  by_cases hn : bs.length < n
  ·have hn' : (bs.length : Int) < (n : Int) := by omega
   have hst := p_stops HT.o 1 hle
   have HS := hyd hst
   clear hst
   go_wp2_with fail
   refine HS.o.mono ?_
   rintro e w3 ⟨rfl, h1, h2⟩
   have H := hyd (And.intro h1 (HK.o.trans h2 (fun _ h => .inl h)))
   clear h1 h2
   go_wp2_with fail
   go_ret
   rw [HR3.o.trans (if_pos (.inl hn))]
   exact ⟨rfl, ⟨pos, 1, _, H.o.1, .inl ⟨rfl, by omega, by omega, by omega⟩⟩, H.o.2⟩
  ·have hn' : ¬ (bs.length : Int) < (n : Int) := by omega
   have hw : IntKind.i64.wrap (n : Int) = (n : Int) := IntWalk.i64_in _ (by omega)
   have hcut := p_cut HT.o (n := n) (by omega) hle
   have HC2 := hyd hcut
   clear hcut
   go_wp2_with fail
   refine HC2.o.mono ?_
   rintro e w2 (⟨hn2, rfl, htp, hk⟩ | ⟨hn2, sv, so, rfl, htp, hk, hrd, hso⟩)
   ·have hcv := fun (wx : World) => rd_text (P := Tryz.prog) (w := wx) (src := 35) (e := 5) (dst := 9) (bs := []) (v := .slice none 0 0) (o := none) ⟨rfl, none, 0, rfl, Nat.le_refl _, by simp [maxLen], .inl ⟨rfl, rfl⟩⟩ Tryz.underlying35 Tryz.underlying5 Tryz.underlying9
    have hd : (bs.drop pos').length < n := by rw [List.length_drop]; exact hn2
    have H := hyd (And.intro htp (HK.o.trans hk (fun _ h => .inl h)))
    clear htp hk
    go_wp2_with fail
    go_ret
    rw [HR3.o.trans (if_pos (.inr hd))]
    exact ⟨rfl, ⟨pos, 3, _, H.o.1, .inl ⟨rfl, by omega, by omega, by omega⟩⟩, H.o.2⟩
   ·have hl : n = ((bs.drop pos').take n).length := by rw [List.length_take, List.length_drop]; omega
    obtain ⟨p, hp⟩ : ∃ p, p = (bs.drop pos').take n := ⟨_, rfl⟩
    have hdd : (bs.drop pos').drop n = bs.drop (pos' + n) := by rw [List.drop_drop]
    have hd : ¬ (bs.drop pos').length < n := by rw [List.length_drop]; omega
    rw [← hp] at hrd hl
    have hcv := rd_text (P := Tryz.prog) (src := 35) (e := 5) (dst := 9) (by rw [hl] at hrd; exact hrd) Tryz.underlying35 Tryz.underlying5 Tryz.underlying9
    have H := hyd (And.intro htp (HK.o.trans hk (fun _ h => .inl h)))
    have HP2 := hyd hp
    clear htp hk hl hrd hp
    go_wp2_with fail
    go_ret
    rw [HR3.o.trans (if_neg (by simp only [not_or]; exact ⟨hn, hd⟩))]
    exact ⟨by rw [HP2.o]; rfl, ⟨pos' + n, 0, 0, H.o.1, .inr ⟨rfl, rfl, by rw [hdd]⟩⟩, H.o.2⟩
end Go.Proofs.YtimpadpeibgmoaaGreat
