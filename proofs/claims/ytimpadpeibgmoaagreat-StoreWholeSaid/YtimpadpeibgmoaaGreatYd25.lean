/- A part of the proof (BaseDel, Ext9, Ext10), joined by squeeze2.py. -/
import Derived.Test.YtimpadpeibgmoaaGreatYd01
import Derived.Test.YtimpadpeibgmoaaGreatYd24
import Derived.WalkLawsBesides
import Derived.Test.YtimpadpeibgmoaaGreatYd23
set_option maxHeartbeats 8000000
set_option maxRecDepth 100000
namespace Go.Emb
open Go.RowKit
theorem run_append_in {P : Program} {w : World} {T tx ty E e' : TypeId} {i : TypeInfo} {k : Nat} (ht : P.underlying T = some (.slice E)) (htx : P.underlying tx = some (.slice e')) (hi : P.info? E = some i) (hik : i.size = k)
  {b off n cap : Nat} {xs : List Value} (h : Row w E k (.slice (some ⟨b, off, none⟩) n cap) n xs (some b)) {x : Value} {m : Nat} {news : List Value} {ox : Option Nat} (hx : Rd w k x m news ox) (h1 : ∀ u ∈ news, u.oneCell' = true) (hroom : n + m ≤ cap) :
  ∃ w', (Builtin.append_ #[T, tx] ty #[.slice (some ⟨b, off, none⟩) n cap, x]).run P w = .ok (.slice (some ⟨b, off, none⟩) (n + m) cap) w' ∧ Row w' E k (.slice (some ⟨b, off, none⟩) (n + m) cap) (n + m) (xs ++ news) (some b) ∧ Keep [b] w w' := by
 by_cases hm : m = 0
 ·subst hm
  have hn : news = [] := List.eq_nil_of_length_eq_zero (by simpa using hx.1)
  subst hn
  refine ⟨w, ?_, by simpa using h, Keep.refl _ _⟩
  obtain ⟨_, a, c, rfl, _⟩ := hx
  obtain ⟨_, h⟩ := h
  rcases h with ⟨h, _⟩ | ⟨b', off', cap', cs, e1, e2, hb, hc1, hc2, _⟩
  ·cases h
  cases e1; cases e2
  cases a with
  | none => simp [Builtin.append_, run_underlying ht, run_underlying htx, sizeOf, typeInfo, hi, Builtin.lenOf, Builtin.firstCells, hc1, storeCells]
  | some a => simp [Builtin.append_, run_underlying ht, run_underlying htx, sizeOf, typeInfo, hi, Builtin.lenOf, Builtin.firstCells, loadCells, loadCellsFrom, hc1, storeCells]
 ·have hs := hx.src htx (by omega) h1
  subst hik
  have hml := hs.newsLen
  obtain ⟨hl, h⟩ := h
  have hlen : (xs ++ news).length = (n + m) * i.size := by rw [List.length_append, hl, hml, Nat.add_mul]
  rcases h with ⟨h, _⟩ | ⟨b', off', cap', cs, e1, e2, hb, h2, h3, h4, h5⟩
  ·cases h
  cases e1; cases e2
  have hfit : off + n * i.size + 0 + news.length ≤ cs.size := by
   have : (n + m) * i.size ≤ cap * i.size := Nat.mul_le_mul_right _ hroom
   rw [Nat.add_mul] at this
   omega
  have hst := run_storeCells_at P b (off + n * i.size) E news 0 cs w hb hfit h1
  simp only [Nat.add_zero] at hst hfit
  have hr : (Builtin.append_ #[T, tx] ty #[.slice (some ⟨b, off, none⟩) n cap, x]).run P w = .ok (.slice (some ⟨b, off, none⟩) (n + m) cap) (w.setRow b (cs.toList.take (off + n * i.size) ++ news ++ cs.toList.drop (off + n * i.size + news.length)).toArray) := by
   rcases hs.kind with ⟨e', hk⟩ | hk <;> simp [Builtin.append_, run_underlying ht, run_underlying hk, sizeOf, typeInfo, hi, hs.len, hroom, hs.cells, Addr.add_lit, hst]
  refine ⟨_, hr, ⟨hlen, .inr ⟨b, off, cap, _, rfl, rfl, setRow_heap w b cs _ E _ hb, hroom, h3, ?_, ?_⟩⟩, ⟨rfl, rfl, rfl, by simp [World.setRow], fun k _ hk => setRow_other w b k _ (by simpa using hk)⟩⟩
  ·simp only [List.size_toArray, List.length_append, List.length_take, List.length_drop, Array.length_toList]
   omega
  ·intro j hj
   rw [Nat.add_mul] at hj
   rw [List.getElem?_toArray, List.append_assoc]
   by_cases hjn : j < n * i.size
   ·rw [List.getElem?_append_left (by simp; omega), List.getElem?_append_left (by omega), List.getElem?_take_of_lt (by omega), Array.getElem?_toList]
    exact h5 j hjn
   ·have ht : (cs.toList.take (off + n * i.size)).length = off + n * i.size := by simp; omega
    rw [List.getElem?_append_right (by omega), ht, List.getElem?_append_left (by omega), List.getElem?_append_right (by omega)]
    congr 1
    omega
theorem step_append_in {P : Program} (w : World) {ops : Array Oper} {o : Oper} {a : Act} {K : Act → World → Prop} {Q : Exit → Act → World → Prop} {X : Prop} (hgd : o.guard = none) (s x : Operand) (T tx : TypeId) (ho : o.op = .call { callee := .builtin .append, args := #[s, x], argTypes := #[T, tx] })
  (E e' : TypeId) (i : TypeInfo) (k : Nat) (ht : P.underlying T = some (.slice E)) (htx : P.underlying tx = some (.slice e')) (hi : P.info? E = some i) (hik : i.size = k)
  (b off n cap : Nat) (xs : List Value) (hs : a.eval s = .slice (some ⟨b, off, none⟩) n cap) (hown : Row w E k (.slice (some ⟨b, off, none⟩) n cap) n xs (some b)) (xv : Value) (hx : a.eval x = xv) (m : Nat) (news : List Value) (ox : Option Nat) (hrd : Rd w k xv m news ox) (h1 : ∀ u ∈ news, u.oneCell' = true) (hroom : n + m ≤ cap) (N : Nat) (hN : n + m = N)
  (h : ∀ w', Row w' E k (.slice (some ⟨b, off, none⟩) N cap) N (xs ++ news) (some b) → Keep [b] w w' → K (a.put o.dst (.slice (some ⟨b, off, none⟩) N cap)) w') :
  if Region.wanted o (yielded ops a.tmps) = true then Oper.wp P o a w K Q else X := by
 subst hN
 have hw : Region.wanted o (yielded ops a.tmps) = true := by simp [Region.wanted, hgd]
 rw [if_pos hw]
 obtain ⟨w', hr, h2, h3⟩ := run_append_in (P := P) (w := w) (ty := o.type) ht htx hi hik hown hrd h1 hroom
 unfold Oper.wp execOp
 simp only [ho, resolve, invoke, builtin, Sem.run_bind, Sem.run_pure, Result.andThen_ok, List.map_toArray, List.map_cons, List.map_nil, hs, hx, hr]
 exact h w' h2 h3
theorem run_clear_behind {P : Program} {w : World} {T E ty : TypeId} {k : Nat} {z : Value} (ht : P.underlying T = some (.slice E)) (hz : ∀ w, (zeroValue E).run P w = .ok z w) (hzs : z.cells.size = k) (hz1 : ∀ u ∈ z.cells.toList, u.oneCell' = true)
  {b off n cap c : Nat} {xs : List Value} (h : Row w E k (.slice (some ⟨b, off, none⟩) n cap) n xs (some b)) (hroom : n + 1 ≤ cap) :
  ∃ w', (Builtin.clear_ #[T] ty #[.slice (some ⟨b, off + n * k, none⟩) 1 c]).run P w = .ok (.tuple #[]) w' ∧ Row w' E k (.slice (some ⟨b, off, none⟩) n cap) n xs (some b) ∧ Keep [b] w w' := by
 obtain ⟨hl, h⟩ := h
 rcases h with ⟨h, _⟩ | ⟨b', off', cap', cs, e1, e2, hb, h2, h3, h4, h5⟩
 ·cases h
 cases e1; cases e2
 have hzl : (Builtin.zeroCells z.cells 1).toList.length = k := by simp [size_zeroCells, hzs]
 have hfit : off + n * k + 0 + (Builtin.zeroCells z.cells 1).toList.length ≤ cs.size := by
  have : (n + 1) * k ≤ cap * k := Nat.mul_le_mul_right _ hroom
  rw [Nat.add_mul] at this
  omega
 have hone : ∀ u ∈ (Builtin.zeroCells z.cells 1).toList, u.oneCell' = true := by
  intro u hu
  simp [Builtin.zeroCells] at hu
  obtain ⟨a, ha, rfl⟩ := hu
  have hlt : a % z.cells.size < z.cells.size := Nat.mod_lt _ (by omega)
  refine hz1 _ ?_
  rw [getElem!_pos z.cells _ hlt]
  simp
 have hst := run_storeCells_at P b (off + n * k) E (Builtin.zeroCells z.cells 1).toList 0 cs w hb hfit hone
 simp only [Nat.add_zero] at hst hfit
 generalize hzz : (Builtin.zeroCells z.cells 1).toList = zs at *
 refine ⟨w.setRow b (cs.toList.take (off + n * k) ++ zs ++ cs.toList.drop (off + n * k + zs.length)).toArray, ?_, ⟨hl, .inr ⟨b, off, cap, _, rfl, rfl, setRow_heap w b cs _ E _ hb, h2, h3, ?_, ?_⟩⟩, ⟨rfl, rfl, rfl, by simp [World.setRow], fun k _ hk => setRow_other w b k _ (by simpa using hk)⟩⟩
 ·simp [Builtin.clear_, run_underlying ht, hz, hzz, hst]
 ·simp only [List.size_toArray, List.length_append, List.length_take, List.length_drop, Array.length_toList]
  omega
 ·intro j hj
  rw [List.getElem?_toArray, List.append_assoc, List.getElem?_append_left (by simp; omega), List.getElem?_take_of_lt (by omega), Array.getElem?_toList]
  exact h5 j hj
theorem wpList_clear_behind {P : Program} (w : World) {ops : Array Oper} {rest : List Oper} {o : Oper} {a : Act} {Q : Exit → Act → World → Prop} (hgd : o.guard = none) (x : Operand) (T : TypeId) (ho : o.op = .call { callee := .builtin .clear, args := #[x], argTypes := #[T] })
  (E : TypeId) (z : Value) (k : Nat) (ht : P.underlying T = some (.slice E)) (hz : ∀ w, (zeroValue E).run P w = .ok z w) (hzs : z.cells.size = k) (hz1 : ∀ u ∈ z.cells.toList, u.oneCell' = true)
  (b off n cap c : Nat) (xs : List Value) (hx : a.eval x = .slice (some ⟨b, off + n * k, none⟩) 1 c) (hown : Row w E k (.slice (some ⟨b, off, none⟩) n cap) n xs (some b)) (hroom : n + 1 ≤ cap)
  (h : ∀ w', Row w' E k (.slice (some ⟨b, off, none⟩) n cap) n xs (some b) → Keep [b] w w' → wpList P ops Q rest (a.put o.dst (.tuple #[])) w') : wpList P ops Q (o :: rest) a w := by
 refine wpList_plain hgd fun K' hK' => ?_
 obtain ⟨w', hr, h2, h3⟩ := run_clear_behind (P := P) (w := w) (ty := o.type) (c := c) ht hz hzs hz1 hown hroom
 unfold Oper.wp execOp
 simp only [ho, resolve, invoke, builtin, Sem.run_bind, Sem.run_pure, Result.andThen_ok, List.map_toArray, List.map_cons, List.map_nil, hx, hr]
 exact hK' _ _ (h w' h2 h3)
section
variable {P : Program} (w : World)
theorem run_sliceHi {T E : TypeId} {k : Nat} (ht : P.underlying T = some (.slice E)) (hk : ∀ w, (sizeOf E).run P w = .ok k w) (b off n cap hi : Nat) (h : hi ≤ cap) :
  (Instr.slice T (.slice (some ⟨b, off, none⟩) n cap) none (some (.int .i64 (hi : Int))) none).run P w = .ok (.slice (some ⟨b, off, none⟩) hi cap) w := by
 have hb := run_sliceBound (P := P) w .i64 (hi : Int) cap .sliceAcap (by omega) (by omega)
 unfold Instr.slice Instr.sliceBounds
 simp [run_underlying ht, hb, hk, Result.andThen]
 by_cases hc : cap = 0
 ·simp [hc]
 ·simp [hc, Addr.add]
theorem run_sliceLH {T E : TypeId} {k : Nat} (ht : P.underlying T = some (.slice E)) (hk : ∀ w, (sizeOf E).run P w = .ok k w) (b off n cap lo hi : Nat) (h : hi ≤ cap) (h2 : lo ≤ hi) :
  (Instr.slice T (.slice (some ⟨b, off, none⟩) n cap) (some (.int .i64 (lo : Int))) (some (.int .i64 (hi : Int))) none).run P w = .ok (.slice (some ⟨b, sliceOff off cap lo k, none⟩) (hi - lo) (cap - lo)) w := by
 have hb := run_sliceBound (P := P) w .i64 (hi : Int) cap .sliceAcap (by omega) (by omega)
 have hb2 := run_sliceBound (P := P) w .i64 (lo : Int) hi .sliceB (by omega) (by omega)
 unfold Instr.slice Instr.sliceBounds sliceOff
 simp [run_underlying ht, hb, hb2, hk, Result.andThen]
 by_cases hc : cap = lo
 ·simp [hc]
 ·simp [hc, Addr.add]
theorem run_slice3I {T E : TypeId} {k : Nat} (ht : P.underlying T = some (.slice E)) (hk : ∀ w, (sizeOf E).run P w = .ok k w) (b off n cap lo hi mx : Nat) (h0 : mx ≤ cap) (h : hi ≤ mx) (h2 : lo ≤ hi) :
  (Instr.slice T (.slice (some ⟨b, off, none⟩) n cap) (some (.int .i64 (lo : Int))) (some (.int .i64 (hi : Int))) (some (.int .i64 (mx : Int)))).run P w = .ok (.slice (some ⟨b, sliceOff off mx lo k, none⟩) (hi - lo) (mx - lo)) w := by
 have hb0 := run_sliceBound (P := P) w .i64 (mx : Int) cap .slice3Acap (by omega) (by omega)
 have hb := run_sliceBound (P := P) w .i64 (hi : Int) mx .slice3B (by omega) (by omega)
 have hb2 := run_sliceBound (P := P) w .i64 (lo : Int) hi .slice3C (by omega) (by omega)
 unfold Instr.slice Instr.sliceBounds sliceOff
 simp [run_underlying ht, hb0, hb, hb2, hk, Result.andThen]
 by_cases hc : mx = lo
 ·simp [hc]
 ·simp [hc, Addr.add]
end
end Go.Emb

namespace Go.Proofs.YtimpadpeibgmoaaGreat
open Go.RowKit Go.Emb Go.Lib Go.Emb.Ext Go.Shelf Go.Sort
theorem encE_one (l : List E) : ∀ u ∈ l.flatMap encE, u.oneCell' = true := by
 intro u hu
 obtain ⟨t, _, ht⟩ := List.mem_flatMap.1 hu
 simp [encE] at ht
 rcases ht with rfl | rfl <;> rfl
theorem flat_take (D : List E) (m : Nat) : (D.flatMap encE).take (m * 2) = (D.take m).flatMap encE := by
 induction D generalizing m with
 | nil => simp
 | cons t D ih =>
  cases m with
  | zero => simp
  | succ m =>
   rw [List.flatMap_cons, List.take_succ_cons, List.flatMap_cons, List.take_append]
   have h1 : (encE t).length = 2 := rfl
   rw [List.take_of_length_le (by rw [h1]; omega), h1, show (m + 1) * 2 - 2 = m * 2 by omega, ih]
theorem flat_drop (D : List E) (m : Nat) : (D.flatMap encE).drop (m * 2) = (D.drop m).flatMap encE := by
 induction D generalizing m with
 | nil => simp
 | cons t D ih =>
  cases m with
  | zero => simp
  | succ m =>
   have h1 : (encE t).length = 2 := rfl
   rw [List.flatMap_cons, List.drop_succ_cons, List.drop_append, List.drop_of_length_le (by rw [h1]; omega), h1, show (m + 1) * 2 - 2 = m * 2 by omega, ih, List.nil_append]
end Go.Proofs.YtimpadpeibgmoaaGreat
namespace Go.Emb
open Go.RowKit
theorem Row.cut {w : World} {E k b off n cap : Nat} {xs : List Value} (h : Row w E k (.slice (some ⟨b, off, none⟩) n cap) n xs (some b)) (m : Nat) (hm : m ≤ n) :
  Row w E k (.slice (some ⟨b, off, none⟩) m cap) m (xs.take (m * k)) (some b) := by
 obtain ⟨hl, h⟩ := h
 rcases h with ⟨h, _⟩ | ⟨b', off', cap', cs, e1, e2, hb, h1, h2, h3, h5⟩
 ·cases h
 cases e1; cases e2
 have hk1 : m * k ≤ n * k := Nat.mul_le_mul_right _ hm
 refine ⟨by rw [List.length_take, hl]; omega, .inr ⟨b, off, cap, cs, rfl, rfl, hb, by omega, h2, h3, fun i hi => ?_⟩⟩
 rw [List.getElem?_take_of_lt hi]
 exact h5 i (by omega)
theorem Row.capacity {w : World} {E k b off n cap : Nat} {xs : List Value} (h : Row w E k (.slice (some ⟨b, off, none⟩) n cap) n xs (some b)) : n ≤ cap ∧ cap ≤ maxLen := by
 obtain ⟨hl, h⟩ := h
 rcases h with ⟨h, _⟩ | ⟨b', off', cap', cs, e1, e2, hb, h1, h2, h3, h5⟩
 ·cases h
 cases e1; cases e2
 exact ⟨h1, h2⟩
end Go.Emb
namespace Go.Proofs.YtimpadpeibgmoaaGreat
open Go.RowKit Go.Emb Go.Lib Go.Emb.Ext Go.Shelf Go.Sort
theorem delete_any {w : World} {b off cap : Nat} {l : List E} {i : Nat} (h : RowE w (.slice (some ⟨b, off, none⟩) l.length cap) l (some b)) (hi : i < l.length) (hsz : l.length ≤ 1000000) :
  Calls Tryz.prog 87 #[.slice (some ⟨b, off, none⟩) l.length cap, .int .i64 i, .int .i64 ((i : Int) + 1)] w fun e w' =>
   e = .returned (.slice (some ⟨b, off, none⟩) (l.length - 1) cap) ∧ RowE w' (.slice (some ⟨b, off, none⟩) (l.length - 1) cap) (l.eraseIdx i) (some b) ∧ Keep [b] w w' := by
 obtain ⟨i0, hif, hz0, hz1, hz2⟩ := info_parts ext_info
 obtain ⟨hcap, hcm⟩ := Row.capacity h
 unfold maxLen at hcm
 have hsk : ∀ w, (sizeOf 34).run Tryz.prog w = .ok 2 w := Tryz.sizeOf34
 have hu := Tryz.underlying46
 have s1 : ∀ W, (Instr.slice 46 (.slice (some ⟨b, off, none⟩) l.length cap) (some (.int .i64 (i : Int))) (some (.int .i64 ((i : Int) + 1))) (some (.int .i64 (l.length : Int)))).run Tryz.prog W = .ok (.slice (some ⟨b, sliceOff off l.length i 2, none⟩) (i + 1 - i) (l.length - i)) W := fun W => by
  have := run_slice3I W hu hsk b off l.length cap i (i + 1) l.length (by omega) (by omega) (by omega)
  simpa using this
 have s2 : ∀ W, (Instr.slice 46 (.slice (some ⟨b, off, none⟩) l.length cap) none (some (.int .i64 (i : Int))) none).run Tryz.prog W = .ok (.slice (some ⟨b, off, none⟩) i cap) W := fun W =>
  run_sliceHi W hu hsk b off l.length cap i (by omega)
 have s3 : ∀ W, (Instr.slice 46 (.slice (some ⟨b, off, none⟩) l.length cap) (some (.int .i64 ((i : Int) + 1))) none none).run Tryz.prog W = .ok (.slice (some ⟨b, sliceOff off cap (i + 1) 2, none⟩) (l.length - (i + 1)) (cap - (i + 1))) W := fun W => by
  have := run_slice_lo W hu hsk b off l.length cap (i + 1) (by omega)
  simpa using this
 have s4 : ∀ W, (Instr.slice 46 (.slice (some ⟨b, off, none⟩) (l.length - 1) cap) (some (.int .i64 ((l.length - 1 : Nat) : Int))) (some (.int .i64 (l.length : Int))) none).run Tryz.prog W = .ok (.slice (some ⟨b, off + (l.length - 1) * 2, none⟩) 1 (cap - (l.length - 1))) W := fun W => by
  have := run_sliceLH W hu hsk b off (l.length - 1) cap (l.length - 1) l.length (by omega) (by omega)
  rw [this]
  unfold sliceOff
  rw [if_neg (by omega), show l.length - (l.length - 1) = 1 by omega]
 have hcut := Row.cut h i (by omega)
 obtain ⟨o2, hrd, _⟩ := Row.rd (Row.drop h (i + 1) (by omega))
 rw [flat_take] at hcut
 rw [flat_drop] at hrd
 have hne : ((i : Int) == (i : Int) + 1) = false := by simp; omega
 have hlist : (l.take i).flatMap encE ++ (l.drop (i + 1)).flatMap encE = (l.eraseIdx i).flatMap encE := by rw [← List.flatMap_append, List.eraseIdx_eq_take_drop_succ]
 have HIF := hyd hif
 have HCUT := hyd hcut
 have HRD := hyd hrd
 have HLIST := hyd hlist
 clear hif hcut hrd h hsk hlist
 generalize hN : l.length - 1 = N at *
 have hN2 : i + (l.length - (i + 1)) = N := by omega
 have hN3 : N + 1 ≤ cap := by omega
 have HN := hyd hN
 have HN2 := hyd hN2
 clear hN hN2
 go_enter Tryz.func87, Tryz.ntmps87
 go_wp2_with fail
 go_region_held3 (fun _ => True) (trivial)
  ((refine step_append_in _ (by rfl) _ _ 46 46 (by rfl) 34 34 i0 2 Tryz.underlying46 Tryz.underlying46 HIF.o hz1 b off i cap _ (by rfl) (HCUT.o.keep (Keep.refl [] w).drew (by simp)) (.slice (some ⟨b, sliceOff off cap (i + 1) 2, none⟩) (l.length - (i + 1)) (cap - (i + 1))) (by rfl) (l.length - (i + 1)) _ o2 (HRD.o.keep0 (Keep.refl [] w).drew) (encE_one _) (by omega) N HN2.o ?_; intro w2 hrow2 hk2))
 have HROW2 := hyd hrow2
 have HK2 := hyd hk2
 clear hrow2 hk2
 go_wp2_with (with_reducible refine wpList_clear_behind _ rfl (.tmp 31) 46 rfl 34 _ 2 Tryz.underlying46 Tryz.zeroValue34 rfl (by simp [Value.cells, Value.oneCell']) b off N cap _ _ rfl HROW2.o hN3 ?_; intro w3 hrow3 hk3)
 go_ret
 refine ⟨rfl, ?_, ?_⟩
 ·unfold RowE
  have := hrow3
  rw [HLIST.o] at this
  rw [List.length_eraseIdx_of_lt hi, HN.o]
  exact this
 ·exact ((Keep.refl [b] w).drew.trans HK2.o (fun x hx => .inl hx)).trans hk3 (fun x hx => .inl hx)
end Go.Proofs.YtimpadpeibgmoaaGreat

namespace Go.Emb
open Go.RowKit
end Go.Emb
namespace Go.Emb.Ext
theorem updI_set {l : List E} {i : Nat} {x : E} (hx : l[i]? = some x) {k : Int} (h : k < x.2) : updI l i k = l.set i (x.1 + k, x.2 - k) := by
 rw [updI_eq hx]
 unfold restAt
 rw [if_pos h, List.set_eq_take_append_cons_drop, if_pos (List.getElem?_eq_some_iff.1 hx).1]
 simp
theorem updI_erase {l : List E} {i : Nat} {x : E} (hx : l[i]? = some x) {k : Int} (h : ¬ k < x.2) : updI l i k = l.eraseIdx i := by
 rw [updI_eq hx]
 unfold restAt
 rw [if_neg h, List.eraseIdx_eq_take_drop_succ]
 simp
theorem updI_right {l : List E} {i : Nat} {x : E} (hx : l[i]? = some x) {k : Int} (h1 : 1 ≤ k) (hr : ∀ y ∈ l, right y = true) : ∀ y ∈ updI l i k, right y = true := by
 have hxr := (right_iff x).1 (hr x (List.mem_of_getElem? hx))
 rw [updI_eq hx]
 unfold restAt
 intro y hy
 rcases List.mem_append.1 hy with hy | hy
 ·rcases List.mem_append.1 hy with hy | hy
  ·exact hr y (List.mem_of_mem_take hy)
  ·split at hy
   ·simp at hy; subst hy; rw [right_iff]; simp; omega
   ·simp at hy
 ·exact hr y (List.mem_of_mem_drop hy)
def TakeRes (n most : Int) (l got left : List E) (err : Int) : Prop :=
 ((n < 0 ∨ most < 0) ∧ err = 2 ∧ got = [] ∧ left = []) ∨
 ((0 ≤ n ∧ 0 ≤ most) ∧ ∃ a e1, JoinRes l a e1 ∧ ((e1 ≠ 0 ∧ err = e1 ∧ got = [] ∧ left = []) ∨
   (e1 = 0 ∧ (sumL a < n ∨ (n ≤ sumL a ∧ takeL most.toNat n a [] = none)) ∧ err = 5 ∧ got = [] ∧ left = []) ∨
   (e1 = 0 ∧ n ≤ sumL a ∧ ∃ g, takeL most.toNat n a [] = some (g, left) ∧ (∀ x ∈ g, right x = true) ∧ JoinRes g got err)))
end Go.Emb.Ext
namespace Go.Proofs.YtimpadpeibgmoaaGreat
open Go.RowKit Go.Emb Go.Lib Go.Emb.Ext Go.Shelf Go.Sort
theorem flat_set1 (l : List E) (i : Nat) (u v : Int) (hi : i < l.length) (hv : l[i].2 = v) : (l.flatMap encE).set (i * 2) (.int .i64 u) = (l.set i (u, v)).flatMap encE := by
 induction l generalizing i with
 | nil => simp at hi
 | cons x l ih =>
  cases i with
  | zero => simp at hv; simp [encE, hv]
  | succ i =>
   rw [List.flatMap_cons, List.set_cons_succ, List.flatMap_cons, ← ih i (by simpa using hi) (by simpa using hv), List.set_append]
   have h1 : (encE x).length = 2 := rfl
   rw [h1, if_neg (by omega), show (i + 1) * 2 - 2 = i * 2 by omega]
theorem flat_set2 (l : List E) (i : Nat) (u v : Int) (hi : i < l.length) (hv : l[i].1 = v) : (l.flatMap encE).set (i * 2 + 1) (.int .i64 u) = (l.set i (v, u)).flatMap encE := by
 induction l generalizing i with
 | nil => simp at hi
 | cons x l ih =>
  cases i with
  | zero => simp at hv; simp [encE, hv]
  | succ i =>
   rw [List.flatMap_cons, List.set_cons_succ, List.flatMap_cons, ← ih i (by simpa using hi) (by simpa using hv), List.set_append]
   have h1 : (encE x).length = 2 := rfl
   rw [h1, if_neg (by omega), show (i + 1) * 2 + 1 - 2 = i * 2 + 1 by omega]
theorem RowE.set2 {w : World} {b off c i : Nat} {l : List E} (h : RowE w (.slice (some ⟨b, off, none⟩) l.length c) l (some b)) (hi : i < l.length) (u1 u2 : Int) (n : Nat) :
  RowE (((w.setCell ⟨b, off + i * 2, none⟩ (.int .i64 u1)).drewN n).setCell ⟨b, off + i * 2 + 1, none⟩ (.int .i64 u2)) (.slice (some ⟨b, off, none⟩) l.length c) (l.set i (u1, u2)) (some b) := by
 unfold RowE at *
 have h1 := Row.setAt h (i * 2) (by omega) (.int .i64 u1)
 rw [flat_set1 l i u1 l[i].2 hi rfl] at h1
 have h1' := h1.keep ((Keep.refl [] _).drewN n) (by simp)
 have hl : (l.set i (u1, l[i].2)).length = l.length := by simp
 have h2 := Row.setAt h1' (i * 2 + 1) (by omega) (.int .i64 u2)
 rw [flat_set2 _ i u2 u1 (by simpa using hi) (by simp)] at h2
 rw [List.set_set] at h2
 rw [List.length_set]
 exact h2
def TakeP (w : World) (n most : Int) (l : List E) (e : Ending) (w' : World) : Prop :=
 ∃ vg vl og ol got left err, e = .returned (.tuple #[vg, vl, .int .i64 err]) ∧ TakeRes n most l got left err ∧ RowE w' vg got og ∧ RowE w' vl left ol ∧ (∀ b, og = some b → w.heap.size ≤ b) ∧ (∀ b, ol = some b → w.heap.size ≤ b) ∧ Keep [] w w'
structure TakeR (w : World) (a : List E) (m0 : Nat) (n0 : Int) (m : Nat) (n : Int) (vg vl : Value) (left got : List E) (og ol : Option Nat) (wr : World) : Prop where
 same : takeL m0 n0 a [] = takeL m n left got
 inv : TInv a n0 n left got
 n0' : 0 ≤ n
 nle : n ≤ sumL left
 rl : ∀ x ∈ left, right x = true
 rg : ∀ x ∈ got, right x = true
 rowl : RowE wr vl left ol
 rowg : RowE wr vg got og
 apart : ∀ b, ol = some b → og ≠ some b
 newg : ∀ b, og = some b → w.heap.size ≤ b
 newl : ∀ b, ol = some b → w.heap.size ≤ b
 keep : Keep [] w wr
 ll : left.length ≤ a.length
 lg : (got.length : Int) ≤ n0 - n
end Go.Proofs.YtimpadpeibgmoaaGreat
